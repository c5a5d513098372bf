/- A table of types that is right for a program; runs of loads and stores. No condition. -/
import Derived.Test.YtlafnhpmhflnaaaQb
import Derived.Lib.FrozenHead
import Derived.Laws.MakeOwn
set_option linter.unusedVariables false
set_option linter.unusedSectionVars false
set_option linter.unnecessarySimpa false
set_option linter.unusedSimpArgs false
namespace Go.Proofs.Ytlafnhpmhflnaaa.Q
variable [Amb]

inductive TK where
  | int (k : IntKind)
  | bool
  | str
  | slice (e : TypeId)
  | arr (n : Nat) (e : TypeId)
  | struct (fs : List (Nat × TypeId))
  | map (k e : TypeId)
  | ptr (e : TypeId)
  | other
structure TE where
  size : Nat
  bytes : Nat
  kind : TK
  zero : Option V
  cmp : Bool
def basicB (P : Program) (t : TypeId) : Bool := match P.underlying t with
  | some (.int _) => true
  | some .bool => true
  | some .string => true
  | _ => false
/-- May a struct's values be held against each other field by field? -/
def cmpB (P : Program) (t : TypeId) : Bool := match P.underlying t with
  | some (.struct fs) => fs.toList.all (fun f => !(f.name == "_") && basicB P f.type) && !P.stoodInHeld t && !P.eqGuardType P.depth t
  | _ => false
def mkK : TypeDesc → TK
  | .int k => .int k
  | .bool => .bool
  | .string => .str
  | .slice e => .slice e
  | .array n e => .arr n e
  | .struct fs => .struct (fs.toList.map fun f => (f.offset, f.type))
  | .map k e => .map k e
  | .pointer e => .ptr e
  | _ => .other
def mkTE (P : Program) (t : TypeId) : Option TE :=
  match P.info? t, P.underlying t with
  | some i, some d => some { size := i.size, bytes := i.bytes, kind := mkK d, zero := i.zero.bind ofConst, cmp := cmpB P t }
  | _, _ => none
abbrev TT := Nat → Option TE
def TTok (P : Program) (tt : TT) : Prop := ∀ t e, tt t = some e → mkTE P t = some e
def TK.agg : TK → Bool
  | .struct _ | .arr _ _ => true
  | _ => false

section
variable {P : Program} {tt : TT}
theorem tt_get (h : TTok P tt) {t : TypeId} {e : TE} (k : tt t = some e) : ∃ i d, P.info? t = some i ∧ P.underlying t = some d ∧ i.size = e.size ∧ i.bytes = e.bytes ∧ mkK d = e.kind ∧ i.zero.bind ofConst = e.zero := by
  have := h t e k
  unfold mkTE at this
  split at this
  · rename_i i d h1 h2
    injection this with this
    subst this
    exact ⟨i, d, h1, h2, rfl, rfl, rfl, rfl⟩
  · cases this
theorem tt_cmp (h : TTok P tt) {t : TypeId} {e : TE} (k : tt t = some e) (hc : e.cmp = true) : ∃ gs : Array Field, P.underlying t = some (.struct gs) ∧ (∀ f ∈ gs.toList, (f.name == "_") = false) ∧ P.stoodInHeld t = false ∧ P.eqGuardType P.depth t = false ∧ e.kind = .struct (gs.toList.map fun f => (f.offset, f.type)) := by
  have := h t e k
  unfold mkTE at this
  split at this
  · rename_i i d h1 h2
    injection this with this
    subst this
    simp only [cmpB, h2] at hc
    split at hc
    · rename_i d gs heq
      injection heq with heq
      subst heq
      simp only [Bool.and_eq_true, Bool.not_eq_true', List.all_eq_true] at hc
      exact ⟨gs, h2, fun f hf => (hc.1.1 f hf).1, hc.1.2, hc.2, rfl⟩
    · cases hc
  · cases this
variable (w : World)
theorem run_sizeOf (h : TTok P tt) {t : TypeId} {e : TE} (k : tt t = some e) : (sizeOf t).run P w = .ok e.size w := by
  obtain ⟨i, d, h1, h2, h3, _⟩ := tt_get h k
  simp [sizeOf, typeInfo, h1, h3]
theorem mkK_agg {d : TypeDesc} : (mkK d).agg = (match d with | .struct _ | .array _ _ => true | _ => false) := by
  cases d <;> rfl
theorem run_isAgg (h : TTok P tt) {t : TypeId} {e : TE} (k : tt t = some e) : (isAgg t).run P w = .ok e.kind.agg w := by
  obtain ⟨i, d, h1, h2, _, _, h3, _⟩ := tt_get h k
  rw [← h3, mkK_agg]
  unfold isAgg
  rw [Sem.run_bind, run_underlying h2]
  cases d <;> rfl
theorem run_zero (h : TTok P tt) {t : TypeId} {e : TE} (k : tt t = some e) {z : V} (hz : e.zero = some z) : ∃ v, (zeroValue t).run P w = .ok v w ∧ (∀ G φ, z.rep G φ v) ∧ ofConst v = some z := by
  obtain ⟨i, d, h1, h2, _, _, h3, h4⟩ := tt_get h k
  rw [hz, Option.bind_eq_some_iff] at h4
  obtain ⟨v, h5, h6⟩ := h4
  exact ⟨v, by simp [zeroValue, typeInfo, h1, h5], fun G φ => ofConst_rep h6 G φ, h6⟩
theorem add_lit (b o k : Nat) : (⟨b, o, none⟩ : Addr).add k = ⟨b, o + k, none⟩ := by
  unfold Addr.add; split <;> simp_all
/-- Where is a scalar: its cell. -/
theorem run_loadVar_one (h : TTok P tt) {t : TypeId} {e : TE} (k : tt t = some e) (ha : e.kind.agg = false) (b o : Nat) {v : Value} (hc : w.cell? ⟨b, o, none⟩ = some v) : (loadVar t ⟨b, o, none⟩).run P w = .ok v w := by
  unfold loadVar
  rw [Sem.run_bind, run_isAgg w h k, ha]
  simp [hc]
theorem run_loadVar_many (h : TTok P tt) {t : TypeId} {e : TE} (k : tt t = some e) (ha : e.kind.agg = true) (b o : Nat) (us : List Value) (hl : us.length = e.size) (hc : ∀ (j : Nat) v, us[j]? = some v → w.cell? ⟨b, o + j, none⟩ = some v) : (loadVar t ⟨b, o, none⟩).run P w = .ok (.agg us.toArray) w := by
  unfold loadVar
  have := run_loadCells_list (P := P) w ⟨b, o, none⟩ us (fun j v hj => by rw [add_lit]; exact hc j v hj)
  rw [hl] at this
  simp [run_isAgg w h k, ha, run_sizeOf w h k, this]
theorem cell_us {b : Nat} {us : List Value} {T : TypeId} {fr : Nat × Nat} (hg : w.heap[b]? = some (.cells us.toArray T fr)) (j : Nat) : w.cell? ⟨b, j, none⟩ = us[j]? := by
  rw [cell_of_row w b j us.toArray T fr hg]; simp
end

/-- The cells of a value of a frame. -/
def V.cells : V → List V
  | .agg cs => cs
  | v => [v]
theorem V.cells_rep {G : Imm} {φ : Loc} {x : V} {v : Value} (h : x.rep G φ v) (hx : match x with | .tup _ => False | .undef => False | _ => True) : repVs G φ x.cells v.cells.toList ∧ ∀ u ∈ v.cells.toList, u.oneCell' = true := by
  have one : v.oneCell' = true → v.cells.toList = [v] := by
    intro h1
    cases v <;> first | rfl | (simp [Value.oneCell'] at h1)
  have fin : v.oneCell' = true → x.cells = [x] → repVs G φ x.cells v.cells.toList ∧ ∀ u ∈ v.cells.toList, u.oneCell' = true := by
    intro h1 h2
    rw [h2, one h1]
    exact ⟨⟨v, [], rfl, h, rfl⟩, by simpa using h1⟩
  cases x with
  | agg cs => obtain ⟨us, rfl, h1, h2⟩ := h; exact ⟨by simpa [V.cells, Value.cells] using h1, by simpa [Value.cells] using h2⟩
  | tup => exact hx.elim
  | undef => exact hx.elim
  | d y => exact fin (D.rep_one h) rfl
  | ptr => obtain ⟨b, c, _, rfl⟩ := h; exact fin rfl rfl
  | eptr => obtain ⟨b, c, _, rfl⟩ := h; exact fin rfl rfl
  | iptr => obtain ⟨b, c, rfl, _⟩ := h; exact fin rfl rfl
  | fsl => obtain ⟨A, rfl, _⟩ := h; exact fin rfl rfl
  | gsl => obtain ⟨A, c, _, rfl, _⟩ := h; exact fin rfl rfl
  | vsl => obtain ⟨A, c, rfl, _⟩ := h; exact fin rfl rfl
  | arr => obtain ⟨b, c, _, k, _, rfl⟩ := h; exact fin rfl rfl
  | map => obtain ⟨b, c, _, rfl⟩ := h; exact fin rfl rfl
  | fn => obtain ⟨us, vs, rfl, _⟩ := h; exact fin rfl rfl
  | yld => obtain ⟨b, c, _, rfl⟩ := h; exact fin rfl rfl
def V.cellB : V → Bool
  | .tup _ => false
  | .undef => false
  | _ => true
theorem V.cells_rep' {G : Imm} {φ : Loc} {x : V} {v : Value} (h : x.rep G φ v) (hx : x.cellB = true) : repVs G φ x.cells v.cells.toList ∧ ∀ u ∈ v.cells.toList, u.oneCell' = true := by
  refine V.cells_rep h ?_
  cases x <;> simp_all [V.cellB]

/-- A block's cells written anew. -/
theorem run_storeVar_at {P : Program} {tt : TT} (h : TTok P tt) {t : TypeId} {e : TE} (k : tt t = some e) (w : World) (b o : Nat) (T : TypeId) (fz : Nat × Nat) (cur : List Value) (v : Value) (hv : ∀ u ∈ v.cells.toList, u.oneCell' = true) (hsz : v.cells.toList.length = e.size)
    (hg : w.heap[b]? = some (.cells cur.toArray T fz)) (hz : fz.2 ≤ o) (hl : o + e.size ≤ cur.length) :
    (storeVar t ⟨b, o, none⟩ v).run P w = .ok () (w.setRow b (cur.take o ++ v.cells.toList ++ cur.drop (o + e.size)).toArray) := by
  have := run_storeCells_atF P b o T fz v.cells.toList 0 cur.toArray w hg (by simpa using hz) (by simp at hsz ⊢; omega) hv
  unfold storeVar
  rw [Sem.run_bind, run_sizeOf w h k]
  have hs : v.cells.size = e.size := by simpa using hsz
  simp only [Result.andThen_ok, hs, ne_eq, not_true_eq_false, if_false, Sem.run_bind]
  simp only [Nat.add_zero] at this
  rw [hsz] at this
  simpa using this

theorem setRow_size (w : World) (b : Nat) (cs : Array Value) : (w.setRow b cs).heap.size = w.heap.size := by simp [World.setRow]
end Go.Proofs.Ytlafnhpmhflnaaa.Q
