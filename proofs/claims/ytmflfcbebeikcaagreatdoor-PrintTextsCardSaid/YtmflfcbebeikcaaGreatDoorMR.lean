/- How arguments are read. No condition. -/
import Derived.Test.YtmflfcbebeikcaaGreatDoorMC
import Derived.ChangeArms
import Derived.Deep.Slices
import Derived.Test.YtmflfcbebeikcaaGreatDoorMB
import Derived.WideShapes
import Derived.ChangeShapes
set_option linter.unusedVariables false
set_option linter.unusedSectionVars false
set_option linter.unnecessarySimpa false
set_option linter.unusedSimpArgs false
namespace Go.Proofs.YtmflfcbebeikcaaGreatDoor.Q
open Go.RowKit
/-- All that lies in a world is known for good. -/
def allG (w : World) : Imm := fun b o => w.cell? ⟨b, o, none⟩
def repDs (G : Imm) : List D → List Value → Prop
  | [], us => us = []
  | d :: ds, us => ∃ u us', us = u :: us' ∧ d.rep G u ∧ repDs G ds us'
theorem repDs_append {G : Imm} : ∀ {a b : List D} {us vs : List Value}, repDs G a us → repDs G b vs → repDs G (a ++ b) (us ++ vs)
  | [], b, us, vs, h, k => by have : us = [] := h; subst this; exact k
  | d :: a, b, us, vs, ⟨u, us', e, h1, h2⟩, k => ⟨u, us' ++ vs, by rw [e]; rfl, h1, repDs_append h2 k⟩
theorem repDs_get {G : Imm} : ∀ {r : List D} {us : List Value}, repDs G r us → ∀ (j : Nat) d, r[j]? = some d → ∃ u, us[j]? = some u ∧ d.rep G u
  | [], us, h, j, d, hd => by simp at hd
  | x :: r, us, ⟨u, us', e, h1, h2⟩, 0, d, hd => by simp at hd; subst hd; exact ⟨u, by rw [e]; rfl, h1⟩
  | x :: r, us, ⟨u, us', e, h1, h2⟩, j + 1, d, hd => by
    obtain ⟨v, k1, k2⟩ := repDs_get h2 j d (by simpa using hd)
    exact ⟨v, by rw [e]; simpa using k1, k2⟩
theorem repDs_len {G : Imm} : ∀ {r : List D} {us : List Value}, repDs G r us → r.length = us.length
  | [], us, h => by have : us = [] := h; subst this; rfl
  | x :: r, us, ⟨u, us', e, h1, h2⟩ => by rw [e]; simp [repDs_len h2]
theorem repDs_vs {G : Imm} {φ : Loc} : ∀ {r : List D} {us : List Value}, repDs G r us → repVs G φ (r.map V.d) us ∧ ∀ u ∈ us, u.oneCell' = true
  | [], us, h => by have : us = [] := h; subst this; exact ⟨rfl, by simp⟩
  | x :: r, us, ⟨u, us', e, h1, h2⟩ => by
    obtain ⟨k1, k2⟩ := repDs_vs (φ := φ) h2
    refine ⟨⟨u, us', e, h1, k1⟩, fun v hv => ?_⟩
    rw [e] at hv
    rcases List.mem_cons.1 hv with hv | hv
    · subst hv; exact D.rep_one h1
    · exact k2 v hv
/-- Whatever is read with so much fuel at a type is such data. -/
def RdD (P : Program) (fuel : Nat) (T : TypeId) (R : List D → Prop) : Prop :=
  ∀ (H : Type) (enc : TypeId × Value → H) (w : World) (cs : List Value) (y : DataW H × List MemPlace), DataW.trod enc P w 0 (fun _ => true) true fuel T cs = some y → ∃ r, R r ∧ repDs (allG w) r cs
theorem RdD.mono {P : Program} {fuel : Nat} {T : TypeId} {R R' : List D → Prop} (h : RdD P fuel T R) (k : ∀ r, R r → R' r) : RdD P fuel T R' := fun H enc w cs y hy => by
  obtain ⟨r, h1, h2⟩ := h H enc w cs y hy
  exact ⟨r, k r h1, h2⟩
theorem r64_wf {n : Int} (h : (Lit.int .i64 n).wf = true) : R64 n := by
  unfold R64
  simp [Lit.wf, IntKind.min, IntKind.max, IntKind.bits, IntKind.signed] at h
  omega
theorem rdD_i64 {P : Program} {T : TypeId} (hu : P.underlying T = some (.int .i64)) (fuel : Nat) : RdD P fuel T (fun r => ∃ n, R64 n ∧ r = [.int .i64 n]) := by
  intro H enc w cs y h
  cases fuel with
  | zero => simp [DataW.trod] at h
  | succ n =>
    unfold DataW.trod at h
    rw [hu] at h
    split at h <;> simp_all
    rename_i k k' m heq
    subst heq
    exact ⟨_, ⟨m, r64_wf h.1.2, rfl⟩, _, _, rfl, rfl, rfl⟩
theorem rdD_bool {P : Program} {T : TypeId} (hu : P.underlying T = some .bool) (fuel : Nat) : RdD P fuel T (fun r => ∃ b, r = [.bool b]) := by
  intro H enc w cs y h
  cases fuel with
  | zero => simp [DataW.trod] at h
  | succ n =>
    unfold DataW.trod at h
    rw [hu] at h
    split at h <;> simp_all
    rename_i _ b
    cases b
    · exact .inl ⟨_, _, rfl, rfl, rfl⟩
    · exact .inr ⟨_, _, rfl, rfl, rfl⟩
theorem rdD_str {P : Program} {T : TypeId} (hu : P.underlying T = some .string) (fuel : Nat) : RdD P fuel T (fun r => ∃ s : List UInt8, s.length ≤ maxLen ∧ r = [.str s]) := by
  intro H enc w cs y h
  cases fuel with
  | zero => simp [DataW.trod] at h
  | succ n =>
    unfold DataW.trod at h
    rw [hu] at h
    split at h <;> simp_all
    rename_i _ s
    exact ⟨_, ⟨s.data.toList, by rw [Array.length_toList]; exact h.1, rfl⟩, _, _, rfl, by simp [D.rep], rfl⟩
theorem cells_eachD {w : World} {a : Addr} {n : Nat} {cs : List Value} (h : w.cells? 0 a n = some cs) : cs.length = n ∧ ∀ (i : Nat) u, cs[i]? = some u → w.cell? (a.add i) = some u := by
  unfold World.cells? at h
  rw [if_pos (Nat.zero_le _)] at h
  have hl := mapM_some_length h
  rw [List.length_range] at hl
  refine ⟨hl, fun i u hi => ?_⟩
  have hlt := (List.getElem?_eq_some_iff.1 hi).1
  have := mapM_some_get h i i (by rw [List.getElem?_range (by omega)])
  rw [this, hi]
theorem spot_none {w : World} {a : Addr} {u : Value} (h : w.cell? a = some u) : a.spot = none := by
  unfold World.cell? at h
  split at h
  · split at h
    · cases h
    · rename_i h1; cases hs : a.spot with
      | none => rfl
      | some x => rw [hs] at h1; simp at h1
  · cases h
theorem rdD_slice {P : Program} {T e : TypeId} {R : List D → Prop} {sz : Nat} (hu : P.underlying T = some (.slice e)) (hc : P.cellsOf e = sz) (hsz : 0 < sz) (fuel : Nat) (hd : ∀ m, m < fuel → RdD P m e R) :
    RdD P fuel T (fun r => ∃ rows : List (List D), (∀ q ∈ rows, R q) ∧ rows.length ≤ maxLen ∧ r = [.sl rows]) := by
  intro H enc w cs y h
  rcases DataW.trod_slice hu h with ⟨rfl, _⟩ | ⟨a, len, cap, elems, rest, n, rfl, rfl, _, _, hlc, hl, hm, hel, _⟩
  · exact ⟨_, ⟨[], by simp, Nat.zero_le _, rfl⟩, _, _, rfl, ⟨none, 0, rfl, Nat.le_refl _, fun h => absurd rfl h⟩, rfl⟩
  · have step : ∀ i, i < len → ∃ r, R r ∧ ∃ cs, r.length = sz ∧ repDs (allG w) r cs ∧ cs.length = sz ∧ ∀ (j : Nat) u, cs[j]? = some u → w.cell? (a.add (i * sz + j)) = some u := by
      intro i hi
      have h1 := hel i hi
      rw [List.getElem?_eq_getElem (by omega), Option.bind_eq_some_iff] at h1
      obtain ⟨cs, hcs, ht⟩ := h1
      obtain ⟨r, hr, hx⟩ := hd n (Nat.lt_succ_self _) H enc w cs _ ht
      rw [hc] at hcs
      obtain ⟨hl1, hcell⟩ := cells_eachD hcs
      exact ⟨r, hr, cs, (repDs_len hx).trans hl1, hx, hl1, fun j u hj => by rw [← Go.Deep.add_add]; exact hcell j u hj⟩
    obtain ⟨f, hf⟩ := Go.Deep.choose_lt step
    have hmap : ∀ (m : Nat), m ≤ len → ∀ k, repRows (allG w) a.block (a.off + k * sz) sz (((List.range (len - k)).map fun i => f (i + k)).take m) := by
      intro m
      induction m with
      | zero => intro _ k; simp [repRows]
      | succ m ih =>
        intro hm k
        by_cases hk : k < len
        · have e : len - k = (len - (k + 1)) + 1 := by omega
          rw [e, List.range_succ_eq_map, List.map_cons, List.map_map, List.take_succ_cons]
          have ih' := ih (by omega) (k + 1)
          obtain ⟨hR, cs, l1, l2, l3, l4⟩ := hf (0 + k) (by omega)
          refine ⟨l1, repRow_of fun j d hj => ?_, ?_⟩
          · obtain ⟨u, u1, u2⟩ := repDs_get l2 j d hj
            have hcell := l4 j u u1
            refine ⟨u, ?_, u2⟩
            have hs := spot_none hcell
            show w.cell? ⟨a.block, a.off + k * sz + j, none⟩ = some u
            rw [Nat.zero_add] at hcell
            unfold Addr.add at hcell
            split at hcell
            · rename_i h0
              have : a.spot = none := by rw [Nat.zero_add] at hs; unfold Addr.add at hs; rw [if_pos h0] at hs; exact hs
              have ea : a = ⟨a.block, a.off, none⟩ := by cases a; simp at this; subst this; rfl
              rw [ea] at hcell
              rw [show a.off + k * sz + j = a.off by omega]
              exact hcell
            · rw [show a.off + k * sz + j = a.off + (k * sz + j) by omega]; exact hcell
          · have e2 : (fun i => f (i + k)) ∘ Nat.succ = fun i => f (i + (k + 1)) := by funext i; simp only [Function.comp]; congr 1; omega
            rw [e2, show a.off + k * sz + sz = a.off + (k + 1) * sz by rw [Nat.add_mul]; omega]
            exact ih'
        · rw [show len - k = 0 by omega]; simp [repRows]
    refine ⟨_, ⟨(List.range len).map f, fun q hq => ?_, by simp; omega, rfl⟩, _, _, rfl, ⟨some a, cap, by simp, by simpa using hlc, fun hn => ⟨a.block, a.off, sz, ?_, ?_⟩⟩, rfl⟩
    · obtain ⟨i, hi, rfl⟩ := List.mem_map.1 hq
      exact (hf i (List.mem_range.1 hi)).1
    · have hpos : 0 < len := by
        rcases Nat.eq_zero_or_pos len with h0 | h0
        · subst h0; exact absurd rfl hn
        · exact h0
      obtain ⟨hR, cs, l1, l2, l3, l4⟩ := hf 0 hpos
      have hlt : 0 < cs.length := by omega
      have := spot_none (l4 0 cs[0] (List.getElem?_eq_getElem hlt))
      simp [Addr.add] at this
      cases a; simp at this; subst this; rfl
    · have := hmap len (Nat.le_refl _) 0
      rw [List.take_of_length_le (by simp)] at this
      simpa using this
/-- A struct's fields, from a place on. -/
def FRD (P : Program) (fuel : Nat) (off : Nat) (fs : List (TypeId × Nat)) (sz : Nat) (R : List D → Prop) : Prop :=
  ∀ (H : Type) (enc : TypeId × Value → H) (w : World) (cs : List Value), (∀ f ∈ fs, ∃ y, DataW.trod enc P w 0 (fun _ => true) true fuel f.1 ((cs.drop f.2).take (P.cellsOf f.1)) = some y) → cs.length = off + sz → ∃ r, R r ∧ repDs (allG w) r (cs.drop off)
theorem frD_last {P : Program} {fuel off : Nat} {t : TypeId} {sz : Nat} {R : List D → Prop} (hc : P.cellsOf t = sz) (hd : RdD P fuel t R) : FRD P fuel off [(t, off)] sz R := by
  intro H enc w cs h hl
  obtain ⟨y, hy⟩ := h _ (List.mem_singleton.2 rfl)
  have : (cs.drop off).take (P.cellsOf t) = cs.drop off := List.take_of_length_le (by rw [List.length_drop, hc]; omega)
  simp only [this] at hy
  exact hd H enc w _ _ hy
theorem frD_cons {P : Program} {fuel off : Nat} {t : TypeId} {fs : List (TypeId × Nat)} {sa sb : Nat} {A B : List D → Prop} (hc : P.cellsOf t = sa) (hd : RdD P fuel t A) (h : FRD P fuel (off + sa) fs sb B) : FRD P fuel off ((t, off) :: fs) (sa + sb) (fun r => ∃ a b, A a ∧ B b ∧ r = a ++ b) := by
  intro H enc w cs hf hl
  obtain ⟨y, hy⟩ := hf _ List.mem_cons_self
  simp only [hc] at hy
  obtain ⟨x1, h1, k1⟩ := hd H enc w _ _ hy
  obtain ⟨x2, h2, k2⟩ := h H enc w cs (fun f hm => hf f (List.mem_cons_of_mem _ hm)) (by omega)
  refine ⟨x1 ++ x2, ⟨x1, x2, h1, h2, rfl⟩, ?_⟩
  have e : cs.drop off = (cs.drop off).take sa ++ cs.drop (off + sa) := by
    rw [← List.drop_drop]; exact (List.take_append_drop _ _).symm
  rw [e]
  exact repDs_append k1 k2
def structOfD (P : Program) (T : TypeId) : Option (List (TypeId × Nat)) :=
  match P.underlying T with
  | some (.struct fs) => some (fs.toList.map fun f => (f.type, f.offset))
  | _ => none
theorem rdD_struct {P : Program} {T : TypeId} {fs : List (TypeId × Nat)} {sz : Nat} {R : List D → Prop} (hu : structOfD P T = some fs) (hc : P.cellsOf T = sz) (fuel : Nat) (h : ∀ m, m < fuel → FRD P m 0 fs sz R) : RdD P fuel T R := by
  intro H enc w cs y ht
  unfold structOfD at hu
  split at hu
  · rename_i gs hs
    obtain ⟨xs, n, rfl, _, hl, hxl, hx⟩ := DataW.trod_struct hs ht
    injection hu with hu
    subst hu
    obtain ⟨x, hk, hk2⟩ := h n (Nat.lt_succ_self _) H enc w cs (by
      intro f hf
      obtain ⟨g, hg, rfl⟩ := List.mem_map.1 hf
      obtain ⟨i, hi, rfl⟩ := List.getElem_of_mem hg
      have h1 := hx i gs[i] (by simp at hi; simp [hi])
      have hi2 : i < xs.length := by simp at hi; omega
      rw [List.getElem?_eq_getElem hi2] at h1
      exact ⟨_, by simpa using h1⟩) (by rw [hl, hc]; simp)
    exact ⟨x, hk, by simpa using hk2⟩
  · cases hu
/-- Rows that are each some one's are a list's. -/
theorem rows_map {α : Type} {f : α → List D} {p : α → Prop} : ∀ {rows : List (List D)}, (∀ q ∈ rows, ∃ x, p x ∧ q = f x) → ∃ l : List α, rows = l.map f ∧ ∀ x ∈ l, p x
  | [], _ => ⟨[], rfl, by simp⟩
  | q :: rows, h => by
    obtain ⟨x, h1, h2⟩ := h q List.mem_cons_self
    obtain ⟨l, k1, k2⟩ := rows_map (f := f) (p := p) (rows := rows) fun q' hq => h q' (List.mem_cons_of_mem _ hq)
    refine ⟨x :: l, by rw [h2, k1]; rfl, fun y hy => ?_⟩
    rcases List.mem_cons.1 hy with e | e
    · subst e; exact h1
    · exact k2 y e
end Go.Proofs.YtmflfcbebeikcaaGreatDoor.Q

set_option maxRecDepth 100000
namespace Go.Proofs.YtmflfcbebeikcaaGreatDoor.Q
open Go.RowKit
theorem rd_int (fuel : Nat) : RdD Tryz.prog fuel 3 (fun r => ∃ n, R64 n ∧ r = [.int .i64 n]) := rdD_i64 (by kernel_rfl) fuel
theorem rd_int64 (fuel : Nat) : RdD Tryz.prog fuel 2 (fun r => ∃ n, R64 n ∧ r = [.int .i64 n]) := rdD_i64 (by kernel_rfl) fuel
theorem rd_str (fuel : Nat) : RdD Tryz.prog fuel 9 (fun r => ∃ s : List UInt8, s.length ≤ maxLen ∧ r = [.str s]) := rdD_str (by kernel_rfl) fuel
theorem rd_bool (fuel : Nat) : RdD Tryz.prog fuel 4 (fun r => ∃ b, r = [.bool b]) := rdD_bool (by kernel_rfl) fuel
/-- Nothing is called back. -/
abbrev ambD : Amb where
  tabs := []
  l := 0
  J := fun _ _ _ _ => False
  ok := fun _ _ => False
  go := fun _ => true
  lt := fun h => h.elim
  stable := fun h => h.elim
  yield := fun h => h.elim
theorem ambD_sit (W : World) : @Sit ambD (allG W) W (fun _ _ => none) (hp []) :=
  @Sit.mk ambD _ _ _ _ ⟨fun _ _ _ h => h, fun _ h => by cases h⟩ (fun i ob h => by cases h) (fun i j ob ob' b _ h => by cases h) (fun _ _ _ => rfl)
theorem goes_below {G G' : Imm} {W W' : World} {φ φ' : Loc} {H' : Hp} (h : Goes G W φ (hp []) G' W' φ' H') : Below W.heap.size W W' :=
  ⟨h.os, h.tape, h.output, h.size, fun k hk => (h.block k hk (fun ⟨i, ob, hi, _⟩ => by cases hi)).1⟩
theorem okWide_agg {P : Program} {W : World} {base : Nat} {T : TypeId} {v : Value} {fs : List (TypeId × Nat)} (hu : structOfD P T = some fs) (h : Value.okWide P W .any base T v) : ∃ cs : List Value, v = .agg cs.toArray := by
  unfold structOfD at hu
  split at hu
  · rename_i gs hs
    unfold Value.okWide at h
    rw [hs] at h
    obtain ⟨cs, rfl, _⟩ := h
    exact ⟨cs.toList, by simp⟩
  · cases hu
theorem read_agg {P : Program} {W : World} {base : Nat} {T : TypeId} {v : Value} {fs : List (TypeId × Nat)} {R : List D → Prop} {H : Type} {enc : TypeId × Value → H} {d : DataW H} {p : List MemPlace} (hu : structOfD P T = some fs) (hR : ∀ fuel, RdD P fuel T R) (hv : Value.okWide P W .any base T v)
    (h : DataW.Trod enc P W 0 (fun _ => true) true T v d p) : ∃ r, R r ∧ (V.agg (r.map V.d)).rep (allG W) (fun _ _ => none) v := by
  obtain ⟨cs, rfl⟩ := okWide_agg hu hv
  obtain ⟨fuel, hf⟩ := h
  simp only [Value.cells] at hf
  obtain ⟨r, h1, h2⟩ := hR fuel H enc W _ _ hf
  obtain ⟨k1, k2⟩ := repDs_vs (φ := fun _ _ => none) h2
  exact ⟨r, h1, cs, rfl, by simpa using k1, by simpa using k2⟩
theorem read_one {P : Program} {W : World} {T : TypeId} {v : Value} {R : List D → Prop} {H : Type} {enc : TypeId × Value → H} {d : DataW H} {p : List MemPlace} (hR : ∀ fuel, RdD P fuel T R) (hv : v.cells = #[v])
    (h : DataW.Trod enc P W 0 (fun _ => true) true T v d p) : ∃ r, R r ∧ repDs (allG W) r [v] := by
  obtain ⟨fuel, hf⟩ := h
  rw [hv] at hf
  exact hR fuel H enc W _ _ hf
section
variable {H : Type} {enc : TypeId × Value → H} {d : DataW H} {p : List MemPlace} {base : Nat}
theorem read_int (W : World) (v : Value) (hv : Value.okWide Tryz.prog W .any base 3 v) (h : DataW.Trod enc Tryz.prog W 0 (fun _ => true) true 3 v d p) : ∃ x : Int, R64 x ∧ (iv x).rep (allG W) (fun _ _ => none) v := by
  obtain ⟨n, rfl⟩ := WideShapes.okWide_int (k := .i64) (by kernel_rfl) hv
  obtain ⟨r, ⟨x, hx, rfl⟩, u, us, e, h1, _⟩ := read_one rd_int rfl h
  injection e with e1 e2
  exact ⟨x, hx, by rw [e1]; exact h1⟩
theorem read_int64 (W : World) (v : Value) (hv : Value.okWide Tryz.prog W .any base 2 v) (h : DataW.Trod enc Tryz.prog W 0 (fun _ => true) true 2 v d p) : ∃ x : Int, R64 x ∧ (iv x).rep (allG W) (fun _ _ => none) v := by
  obtain ⟨n, rfl⟩ := WideShapes.okWide_int (k := .i64) (by kernel_rfl) hv
  obtain ⟨r, ⟨x, hx, rfl⟩, u, us, e, h1, _⟩ := read_one rd_int64 rfl h
  injection e with e1 e2
  exact ⟨x, hx, by rw [e1]; exact h1⟩
theorem read_str (W : World) (v : Value) (hv : Value.okWide Tryz.prog W .any base 9 v) (h : DataW.Trod enc Tryz.prog W 0 (fun _ => true) true 9 v d p) : ∃ x : List UInt8, x.length ≤ maxLen ∧ (V.d (.str x)).rep (allG W) (fun _ _ => none) v := by
  obtain ⟨n, rfl⟩ := WideShapes.okWide_string (by kernel_rfl) hv
  obtain ⟨r, ⟨x, hx, rfl⟩, u, us, e, h1, _⟩ := read_one rd_str rfl h
  injection e with e1 e2
  exact ⟨x, hx, by rw [e1]; exact h1⟩
end
end Go.Proofs.YtmflfcbebeikcaaGreatDoor.Q
