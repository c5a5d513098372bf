/- From what is read to the functions' contracts. No condition. -/
import Derived.Test.YtlafnhpmhflnaaaQrt
import Derived.Test.YtlafnhpmhflnaaaQs
import Derived.Test.YtlafnhpmhflnaaaQta
import Derived.WideShapes
import Derived.ChangeShapes
set_option linter.unusedVariables false
set_option linter.unusedSectionVars false
set_option linter.unnecessarySimpa false
set_option linter.unusedSimpArgs false
set_option maxRecDepth 100000
namespace Go.Proofs.Ytlafnhpmhflnaaa.Q
open Go.RowKit
/-- Nothing is called back. -/
abbrev ambD : Amb where
  l := 0
  J := fun _ _ _ _ => False
  ok := fun _ _ => False
  go := fun _ => true
  lt := fun h => h.elim
  stable := fun h => h.elim
  yield := fun h => h.elim
theorem ambD_sit (W : World) : @Sit ambD (allG W) W (fun _ _ => none) (hp []) :=
  @Sit.mk ambD _ _ _ _ (fun _ _ _ h => h) (fun i ob h => by cases h) (fun i j ob ob' b _ h => by cases h) (fun _ _ _ => rfl)
theorem goes_below {G G' : Imm} {W W' : World} {φ φ' : Loc} {H' : Hp} (h : Goes G W φ (hp []) G' W' φ' H') : Below W.heap.size W W' :=
  ⟨h.os, h.tape, h.output, h.size, fun k hk => (h.block k hk (fun ⟨i, ob, hi, _⟩ => by cases hi)).1⟩
theorem okWide_agg {P : Program} {W : World} {base : Nat} {T : TypeId} {v : Value} {fs : List (TypeId × Nat)} (hu : structOfD P T = some fs) (h : Value.okWide P W .any base T v) : ∃ cs : List Value, v = .agg cs.toArray := by
  unfold structOfD at hu
  split at hu
  · rename_i gs hs
    unfold Value.okWide at h
    rw [hs] at h
    obtain ⟨cs, rfl, _⟩ := h
    exact ⟨cs.toList, by simp⟩
  · cases hu
theorem read_agg {P : Program} {W : World} {base : Nat} {T : TypeId} {v : Value} {fs : List (TypeId × Nat)} {R : List D → Prop} {H : Type} {enc : TypeId × Value → H} {d : DataW H} {p : List MemPlace} (hu : structOfD P T = some fs) (hR : ∀ fuel, RdD P fuel T R) (hv : Value.okWide P W .any base T v)
    (h : DataW.Trod enc P W 0 (fun _ => true) true T v d p) : ∃ r, R r ∧ (V.agg (r.map V.d)).rep (allG W) (fun _ _ => none) v := by
  obtain ⟨cs, rfl⟩ := okWide_agg hu hv
  obtain ⟨fuel, hf⟩ := h
  simp only [Value.cells] at hf
  obtain ⟨r, h1, h2⟩ := hR fuel H enc W _ _ hf
  obtain ⟨k1, k2⟩ := repDs_vs (φ := fun _ _ => none) h2
  exact ⟨r, h1, cs, rfl, by simpa using k1, by simpa using k2⟩
theorem read_one {P : Program} {W : World} {T : TypeId} {v : Value} {R : List D → Prop} {H : Type} {enc : TypeId × Value → H} {d : DataW H} {p : List MemPlace} (hR : ∀ fuel, RdD P fuel T R) (hv : v.cells = #[v])
    (h : DataW.Trod enc P W 0 (fun _ => true) true T v d p) : ∃ r, R r ∧ repDs (allG W) r [v] := by
  obtain ⟨fuel, hf⟩ := h
  rw [hv] at hf
  exact hR fuel H enc W _ _ hf
section
variable {H : Type} {enc : TypeId × Value → H} {d : DataW H} {p : List MemPlace} {base : Nat}
theorem read_Cn (W : World) (v : Value) (hv : Value.okWide Try.prog W .any base 40 v) (h : DataW.Trod enc Try.prog W 0 (fun _ => true) true 40 v d p) : ∃ x : Cn, x.ok ∧ x.v.rep (allG W) (fun _ _ => none) v := by
  obtain ⟨r, ⟨x, hx, rfl⟩, hr⟩ := read_agg (fs := [(3, 0), (34, 1)]) (by kernel_rfl) rd_Cn hv h
  exact ⟨x, hx, hr⟩
theorem read_Ln (W : World) (v : Value) (hv : Value.okWide Try.prog W .any base 34 v) (h : DataW.Trod enc Try.prog W 0 (fun _ => true) true 34 v d p) : ∃ x : Ln, x.ok ∧ x.v.rep (allG W) (fun _ _ => none) v := by
  obtain ⟨r, ⟨x, hx, rfl⟩, hr⟩ := read_agg (fs := [(2, 0), (32, 1)]) (by kernel_rfl) rd_Ln hv h
  exact ⟨x, hx, hr⟩
theorem read_ints (W : World) (v : Value) (hv : Value.okWide Try.prog W .any base 41 v) (h : DataW.Trod enc Try.prog W 0 (fun _ => true) true 41 v d p) : ∃ x : List Int, I64 x ∧ (ils x).rep (allG W) (fun _ _ => none) v := by
  obtain ⟨a, l, c, rfl⟩ := WideShapes.okWide_slice (e := 2) (by kernel_rfl) hv
  obtain ⟨r, ⟨x, hx, rfl⟩, u, us, e, h1, _⟩ := read_one rd_ints rfl h
  injection e with e1 e2
  exact ⟨x, hx, by rw [e1]; exact h1⟩
theorem read_int (W : World) (v : Value) (hv : Value.okWide Try.prog W .any base 3 v) (h : DataW.Trod enc Try.prog W 0 (fun _ => true) true 3 v d p) : ∃ x : Int, R64 x ∧ (iv x).rep (allG W) (fun _ _ => none) v := by
  obtain ⟨n, rfl⟩ := WideShapes.okWide_int (k := .i64) (by kernel_rfl) hv
  obtain ⟨r, ⟨x, hx, rfl⟩, u, us, e, h1, _⟩ := read_one rd_int rfl h
  injection e with e1 e2
  exact ⟨x, hx, by rw [e1]; exact h1⟩
theorem read_int64 (W : World) (v : Value) (hv : Value.okWide Try.prog W .any base 2 v) (h : DataW.Trod enc Try.prog W 0 (fun _ => true) true 2 v d p) : ∃ x : Int, R64 x ∧ (iv x).rep (allG W) (fun _ _ => none) v := by
  obtain ⟨n, rfl⟩ := WideShapes.okWide_int (k := .i64) (by kernel_rfl) hv
  obtain ⟨r, ⟨x, hx, rfl⟩, u, us, e, h1, _⟩ := read_one rd_int64 rfl h
  injection e with e1 e2
  exact ⟨x, hx, by rw [e1]; exact h1⟩
end
end Go.Proofs.Ytlafnhpmhflnaaa.Q
