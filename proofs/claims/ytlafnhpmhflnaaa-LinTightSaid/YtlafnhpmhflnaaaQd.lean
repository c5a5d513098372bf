/- What an operation does to pure values and to a local heap, and that it does so in the world. No condition. -/
import Derived.Test.YtlafnhpmhflnaaaQc
set_option linter.unusedVariables false
set_option linter.unusedSectionVars false
set_option linter.unnecessarySimpa false
set_option linter.unusedSimpArgs false
namespace Go.Proofs.Ytlafnhpmhflnaaa.Q
variable [Amb]

/-- What an operation yields; what it looks at, writes, makes. -/
structure Eff where
  x : V
  rd : List Nat
  wr : List (Nat × Ob)
  nw : List Ob
def lkO : List (Nat × Ob) → Nat → Option Ob
  | [], _ => none
  | (k, ob) :: r, i => bif Nat.beq k i then some ob else lkO r i
def upd (H : Hp) (base : Nat) (e : Eff) : Hp := fun i => match lkO e.wr i with
  | some ob => some ob
  | none => if base ≤ i ∧ i < base + e.nw.length then e.nw[i - base]? else H i
def setAll (H : List Ob) : List (Nat × Ob) → List Ob
  | [] => H
  | (i, ob) :: r => (setAll H r).set i ob
def updL (H : List Ob) (e : Eff) : List Ob := match e.wr, e.nw with
  | [], [] => H
  | wr, nw => setAll H wr ++ nw
theorem updL_eq (H : List Ob) (e : Eff) : updL H e = setAll H e.wr ++ e.nw := by
  unfold updL
  split
  · rename_i h1 h2; rw [h1, h2]; simp [setAll]
  · rfl
abbrev hp (H : List Ob) : Hp := fun i => H[i]?
theorem setAll_len (H : List Ob) : ∀ r, (setAll H r).length = H.length
  | [] => rfl
  | (i, ob) :: r => by simp [setAll, setAll_len H r]
theorem lkO_cons (k : Nat) (ob : Ob) (r : List (Nat × Ob)) (i : Nat) : lkO ((k, ob) :: r) i = if k = i then some ob else lkO r i := by
  rw [lkO]
  by_cases h : k = i
  · simp [h]
  · have : Nat.beq k i = false := by
      cases hb : Nat.beq k i with
      | false => rfl
      | true => exact absurd (Nat.eq_of_beq_eq_true hb) h
    rw [this, if_neg h]; rfl
theorem setAll_get (H : List Ob) (i : Nat) (hi : i < H.length) : ∀ r, (setAll H r)[i]? = match lkO r i with | some ob => some ob | none => H[i]?
  | [] => rfl
  | (k, ob) :: r => by
    rw [lkO_cons]
    simp only [setAll, List.getElem?_set, setAll_len]
    by_cases h : k = i
    · simp [h, hi]
    · simp only [h, if_false]; exact setAll_get H i hi r
theorem lkO_mem : ∀ {r : List (Nat × Ob)} {i : Nat} {ob : Ob}, lkO r i = some ob → (i, ob) ∈ r
  | [], _, _, h => by cases h
  | (k, ob') :: r, i, ob, h => by
    rw [lkO_cons] at h
    split at h
    · rename_i hk; injection h with h; subst h; subst hk; exact List.mem_cons_self
    · exact List.mem_cons_of_mem _ (lkO_mem h)
theorem upd_hp (H : List Ob) (e : Eff) (hw : ∀ p ∈ e.wr, p.1 < H.length) : upd (hp H) H.length e = hp (updL H e) := by
  funext i
  simp only [upd, hp, updL_eq]
  by_cases hi : i < H.length
  · rw [List.getElem?_append_left (by rw [setAll_len]; exact hi), setAll_get H i hi]
    split
    · rfl
    · rw [if_neg (by omega)]
  · rw [List.getElem?_append_right (by rw [setAll_len]; omega), setAll_len]
    have : lkO e.wr i = none := by
      cases hk : lkO e.wr i with
      | none => rfl
      | some ob => have := hw _ (lkO_mem hk); omega
    rw [this]
    by_cases hk : i < H.length + e.nw.length
    · rw [if_pos ⟨by omega, hk⟩]
    · rw [if_neg (by omega), List.getElem?_eq_none (by omega : H.length ≤ i), List.getElem?_eq_none (by omega)]

def OpRep (o : Oper) (ρ : Env) (a : Act) (G : Imm) (φ : Loc) : Prop := ∀ x X, x ∈ o.op.operands → ev ρ x = some X → X.rep G φ (a.eval x)
/-- The operation does what e says, whatever lies beside. -/
structure Tri (P : Program) (o : Oper) (ρ : Env) (H : List Ob) (e : Eff) : Prop where
  rd : ∀ i ∈ e.rd, i < H.length
  wr : ∀ p ∈ e.wr, p.1 < H.length
  go : ∀ (a : Act) (G : Imm) (w : World) (φ : Loc) (Hx : Hp) (K : Act → World → Prop) (Q : Exit → Act → World → Prop), Sit G w φ Hx → OpRep o ρ a G φ →
    (∀ i, i ∈ e.rd ∨ (∃ p ∈ e.wr, p.1 = i) → Hx i = H[i]?) → (∀ i, H.length ≤ i → i < H.length + e.nw.length → Hx i = none) →
    (∀ v G' w' φ', Sit G' w' φ' (upd Hx H.length e) → Goes G w φ Hx G' w' φ' (upd Hx H.length e) → e.x.rep G' φ' v → K (a.put o.dst v) w') → o.wp P a w K Q

theorem upd_nil (H : Hp) (base : Nat) (x : V) (rd : List Nat) : upd H base ⟨x, rd, [], []⟩ = H := by
  funext i
  simp only [upd, lkO, List.length_nil, Nat.add_zero]
  rw [if_neg (by omega)]
theorem tri_val {P : Program} {o : Oper} {ρ : Env} {H : List Ob} {x : V} {rd : List Nat} (hr : ∀ i ∈ rd, i < H.length)
    (h : ∀ (a : Act) (G : Imm) (w : World) (φ : Loc) (Hx : Hp), Sit G w φ Hx → OpRep o ρ a G φ → (∀ i, i ∈ rd → Hx i = H[i]?) → ∃ v, (execOp a.eval o).run P w = .ok (.value v) w ∧ x.rep G φ v) : Tri P o ρ H ⟨x, rd, [], []⟩ where
  rd := hr
  wr := by simp
  go := fun a G w φ Hx K Q hs ho ha hf hK => by
    obtain ⟨v, hv, hx⟩ := h a G w φ Hx hs ho fun i hi => ha i (.inl hi)
    rw [upd_nil] at hK
    unfold Oper.wp
    rw [hv, Oper.upon_value]
    exact hK v G w φ hs (Goes.refl _ _ _ _) hx

/-! ### a new object -/
def setLoc (φ : Loc) (i n : Nat) (z : Option (Nat × Nat) × Nat) : Loc := fun j m => if j = i ∧ m = n then some z else φ j m
theorem setLoc_le {φ : Loc} {i n : Nat} {z : Option (Nat × Nat) × Nat} (h : φ i n = none) : φ.le (setLoc φ i n z) := fun j m y e => by
  unfold setLoc
  split
  · rename_i hh; rw [hh.1, hh.2, h] at e; cases e
  · exact e
theorem setLoc_same (φ : Loc) (i n : Nat) (z : Option (Nat × Nat) × Nat) : setLoc φ i n z i n = some z := by simp [setLoc]
theorem setLoc_ne {φ : Loc} {i n : Nat} {z : Option (Nat × Nat) × Nat} {j m : Nat} (h : j ≠ i) : setLoc φ i n z j m = φ j m := by simp [setLoc, h]
theorem heap_new (w : World) (o : Obj) : (w.alloc o).heap[w.heap.size]? = some o := heap_alloc_new w o
theorem Inv.fresh {G : Imm} {w : World} (h : Inv G w) {b : Nat} (hb : w.heap.size ≤ b) (o : Nat) : G b o = none := by
  cases hg : G b o with
  | none => rfl
  | some v =>
    have := World.block_lt_of_cell? w _ (h b o v hg)
    simp at this
    omega
theorem Inv.alloc {G : Imm} {w : World} (h : Inv G w) (ob : Obj) : Inv G (w.alloc ob) := fun b o v hg => by
  have h1 := h b o v hg
  have h2 := World.block_lt_of_cell? w _ h1
  exact (World.cell?_alloc_lt (w := w) (o := ob) (a := ⟨b, o, none⟩) h2).trans h1
theorem upd_new (H : Hp) (base : Nat) (x : V) (rd : List Nat) (ob : Ob) : upd H base ⟨x, rd, [], [ob]⟩ = fun i => if i = base then some ob else H i := by
  funext i
  simp only [upd, lkO, List.length_singleton]
  by_cases h : i = base
  · subst h; simp
  · rw [if_neg h, if_neg (by omega)]
/-- One more object in a new block. -/
theorem Sit.add {G : Imm} {w : World} {φ : Loc} {H : Hp} (hs : Sit G w φ H) (base n c : Nat) (ob : Ob) (o : Obj) (hn : H base = none)
    (hh : Holds G (w.alloc o) (setLoc φ base n (some (w.heap.size, 0), c)) base ob) (ho : ∀ b, Owns (setLoc φ base n (some (w.heap.size, 0), c)) base ob b → b = w.heap.size) :
    Sit G (w.alloc o) (setLoc φ base n (some (w.heap.size, 0), c)) (fun i => if i = base then some ob else H i) ∧ Goes G w φ H G (w.alloc o) (setLoc φ base n (some (w.heap.size, 0), c)) (fun i => if i = base then some ob else H i) := by
  refine hs.step (fun i => i = base) (Imm.le.refl _) (setLoc_le (hs.un base hn n)) (fun i hi m => setLoc_ne hi) rfl rfl rfl (by simp) ?_ (fun i hi => if_neg hi) (hs.inv.alloc o) ?_ ?_ ?_ ?_
  · intro b hb _
    exact ⟨heap_alloc_old w o b hb, fun _ => rfl⟩
  · intro i ob' hi hH
    subst hi
    simp at hH; subst hH; exact hh
  · intro i j ob1 ob2 b hi hj hij
    exact absurd (hi.trans hj.symm) hij
  · intro i ob' b hi hH hb
    subst hi
    simp at hH; subst hH
    exact .inr (Nat.le_of_eq (ho b hb).symm)
  · intro i hi hH
    subst hi; simp at hH

theorem holds_box_new {G : Imm} {w : World} {φ : Loc} {id : Nat} {cells : List V} {us : List Value} {T : TypeId} {c : Nat} (hi : Inv G w) (hφ : φ id 0 = none) (h : repVs G φ cells us) (h1 : ∀ u ∈ us, u.oneCell' = true) :
    Holds G (w.alloc (.cells us.toArray T)) (setLoc φ id 0 (some (w.heap.size, 0), c)) id (.box cells) :=
  ⟨w.heap.size, c, T, us, setLoc_same _ _ _ _, heap_new w _, repVs_mono (Imm.le.refl _) (setLoc_le hφ) _ _ h, h1, hi.fresh (Nat.le_refl _)⟩
theorem tri_box {P : Program} {o : Oper} {ρ : Env} {H : List Ob} {cells : List V}
    (h : ∀ (a : Act) (G : Imm) (w : World) (φ : Loc), OpRep o ρ a G φ → ∃ us T, (execOp a.eval o).run P w = .ok (.value (.pointer (some ⟨w.heap.size, 0, none⟩))) (w.alloc (.cells (List.toArray us) T)) ∧ repVs G φ cells us ∧ ∀ u ∈ us, u.oneCell' = true) :
    Tri P o ρ H ⟨.ptr H.length 0, [], [], [.box cells]⟩ where
  rd := by simp
  wr := by simp
  go := fun a G w φ Hx K Q hs ho ha hf hK => by
    obtain ⟨us, T, hv, hr, h1⟩ := h a G w φ ho
    have hn : Hx H.length = none := hf _ (Nat.le_refl _) (by simp)
    have hst := hs.add H.length 0 0 (.box cells) (.cells us.toArray T) hn (holds_box_new hs.inv (hs.un _ hn 0) hr h1) (fun b hb => by simp [Owns, own, setLoc_same] at hb; exact hb.symm)
    rw [upd_new] at hK
    unfold Oper.wp
    rw [hv, Oper.upon_value]
    exact hK _ _ _ _ hst.1 hst.2 ⟨w.heap.size, 0, setLoc_same _ _ _ _, rfl⟩

/-! ### tests -/
def condP (b : Bool) (A : Prop) : Prop := match b with | true => A | false => False
theorem condP_intro {b : Bool} {A : Prop} (h : b = true) (k : A) : condP b A := by subst h; exact k
theorem condP_out {b : Bool} {A : Prop} (h : condP b A) : b = true ∧ A := by
  cases b
  · exact h.elim
  · exact ⟨rfl, h⟩
/-- By a bool. -/
def brP (b : Bool) (A B : Prop) : Prop := match b with
  | true => A
  | false => B
theorem brP_split {b : Bool} {A B : Prop} (h : b = true → A) (k : b = false → B) : brP b A B := by
  cases b
  · exact k rfl
  · exact h rfl
theorem brP_true {b : Bool} {A B : Prop} (h : b = true) (k : A) : brP b A B := by subst h; exact k
theorem brP_false {b : Bool} {A B : Prop} (h : b = false) (k : B) : brP b A B := by subst h; exact k
theorem brP_out {b : Bool} {A B : Prop} (h : brP b A B) : (b = true ∧ A) ∨ (b = false ∧ B) := by
  cases b
  · exact .inr ⟨rfl, h⟩
  · exact .inl ⟨rfl, h⟩
def PIdx {α : Type} (rows : List α) (i : Int) (K : α → Prop) : Prop := 0 ≤ i ∧ ∃ row, rows[i.toNat]? = some row ∧ K row
def PIdxN {α : Type} (rows : List α) (i : Nat) (K : α → Prop) : Prop := ∃ row, rows[i]? = some row ∧ K row
theorem PIdx.map {α β : Type} {l : List α} {f : α → β} {i : Nat} {x : α} {K : β → Prop} (h : l[i]? = some x) (k : K (f x)) : PIdx (l.map f) i K := ⟨by omega, f x, by simp [h], k⟩
theorem PIdx.at {α : Type} {l : List α} {i : Nat} {x : α} {K : α → Prop} (h : l[i]? = some x) (k : K x) : PIdx l i K := ⟨by omega, x, by simp [h], k⟩
theorem PIdxN.map {α β : Type} {l : List α} {f : α → β} {i : Nat} {x : α} {K : β → Prop} (h : l[i]? = some x) (k : K (f x)) : PIdxN (l.map f) i K := ⟨f x, by simp [h], k⟩

section
variable {P : Program} {tt : TT} {o : Oper} {ρ : Env} {H : List Ob} {K : Eff → Prop}
/-! ### loads -/
def pLoad (tt : TT) (t : TypeId) (X : V) (H : List Ob) (K : Eff → Prop) : Prop :=
  match tt t with
  | none => False
  | some e =>
    match X with
    | .ptr id off =>
      match H[id]? with
      | some (.box cells) =>
        match e.kind.agg with
        | true => condP (Nat.ble (off + e.size) cells.length) (K ⟨.agg ((cells.drop off).take e.size), [id], [], []⟩)
        | false =>
          match cells[off]? with
          | some c => K ⟨c, [id], [], []⟩
          | none => False
      | _ => False
    | .iptr row =>
      match e.kind.agg with
      | true => condP (Nat.ble e.size row.length) (K ⟨.agg ((row.take e.size).map V.d), [], [], []⟩)
      | false =>
        match row with
        | d :: _ => K ⟨.d d, [], [], []⟩
        | [] => False
    | .eptr id i off =>
      match H[id]? with
      | some (.parr _ rows) => PIdxN rows i fun row =>
        match e.kind.agg with
        | true => condP (Nat.ble (off + e.size) row.length) (K ⟨.agg (((row.drop off).take e.size).map V.d), [id], [], []⟩)
        | false =>
          match row.drop off with
          | d :: _ => K ⟨.d d, [id], [], []⟩
          | [] => False
      | _ => False
    | _ => False

theorem gather {G : Imm} {φ : Loc} {f : Nat → Option Value} : ∀ (r : List D) (m : Nat), (∀ (j : Nat) d, r[j]? = some d → ∃ u, f (m + j) = some u ∧ d.rep G u) →
    ∃ us : List Value, us.length = r.length ∧ repVs G φ (r.map V.d) us ∧ (∀ u ∈ us, u.oneCell' = true) ∧ ∀ (j : Nat) u, us[j]? = some u → f (m + j) = some u
  | [], _, _ => ⟨[], rfl, rfl, by simp, by simp⟩
  | d :: ds, m, h => by
    obtain ⟨u, h1, h2⟩ := h 0 d rfl
    obtain ⟨us, g1, g2, g3, g4⟩ := gather (φ := φ) ds (m + 1) fun j d hj => by
      have := h (j + 1) d (by simpa using hj)
      rwa [show m + (j + 1) = m + 1 + j by omega] at this
    refine ⟨u :: us, by simp [g1], ⟨u, us, rfl, h2, g2⟩, ?_, ?_⟩
    · intro x hx
      rcases List.mem_cons.1 hx with rfl | hx
      · exact D.rep_one h2
      · exact g3 x hx
    · intro j x hj
      cases j with
      | zero => simp at hj; subst hj; simpa using h1
      | succ j =>
        have := g4 j x (by simpa using hj)
        rwa [show m + 1 + j = m + (j + 1) by omega] at this
theorem lt_of_get {α : Type} {l : List α} {i : Nat} {x : α} (h : l[i]? = some x) : i < l.length := (List.getElem?_eq_some_iff.1 h).1
theorem pLoad_sem (htt : TTok P tt) {t : TypeId} {x : Operand} {X : V} (ho : o.op = .load t x) (hx : ev ρ x = some X) (h : pLoad tt t X H K) : ∃ e, K e ∧ Tri P o ρ H e := by
  have hop : x ∈ o.op.operands := by rw [ho]; simp [Op.operands]
  have run : ∀ (a : Act) (b j : Nat) (w : World) (v : Value), a.eval x = .pointer (some ⟨b, j, none⟩) → (loadVar t ⟨b, j, none⟩).run P w = .ok v w → (execOp a.eval o).run P w = .ok (.value v) w := by
    intro a b j w v e1 e2
    unfold execOp
    rw [ho]
    simp [Instr.loadAt, Instr.sureAddr, e1, e2]
  unfold pLoad at h
  split at h
  · exact h.elim
  rename_i e he
  split at h
  · rename_i id off
    split at h
    · rename_i cells hH
      have hid := lt_of_get hH
      split at h
      · rename_i hagg
        obtain ⟨hle, hk⟩ := condP_out h
        have hle := Nat.le_of_ble_eq_true hle
        refine ⟨_, hk, tri_val (by simpa using hid) fun a G w φ Hx hs hr ha => ?_⟩
        obtain ⟨b, c, h1, h2⟩ := hr x _ hop hx
        obtain ⟨b', c', T, us, k1, k2, k3, k4, k5⟩ := hs.holds id _ ((ha id (by simp)).trans hH)
        rw [h1] at k1; injection k1 with k1; injection k1 with k1 k1'; injection k1 with k1; injection k1 with k1; subst k1
        have hl := repVs_len k3
        refine ⟨.agg ((us.drop off).take e.size).toArray, run a b off w _ h2 (run_loadVar_many w htt he hagg b off _ (by simp; omega) fun j v hj => ?_), ⟨_, rfl, repVs_take (repVs_drop k3 _) _, fun u hu => k4 u (List.mem_of_mem_drop (List.mem_of_mem_take hu))⟩⟩
        rw [cell_us w k2, ← List.getElem?_drop]
        rw [List.getElem?_take] at hj
        split at hj
        · exact hj
        · cases hj
      · rename_i hagg
        split at h
        · rename_i c hc
          refine ⟨_, h, tri_val (by simpa using hid) fun a G w φ Hx hs hr ha => ?_⟩
          obtain ⟨b, c', h1, h2⟩ := hr x _ hop hx
          obtain ⟨b', c'', T, us, k1, k2, k3, k4, k5⟩ := hs.holds id _ ((ha id (by simp)).trans hH)
          rw [h1] at k1; injection k1 with k1; injection k1 with k1 k1'; injection k1 with k1; injection k1 with k1; subst k1
          obtain ⟨u, hu, hru⟩ := repVs_get k3 off c hc
          exact ⟨u, run a b off w _ h2 (run_loadVar_one w htt he hagg b off (by rw [cell_us w k2, hu])), hru⟩
        · exact h.elim
    · exact h.elim
  · rename_i row
    split at h
    · rename_i hagg
      obtain ⟨hle, hk⟩ := condP_out h
      have hle := Nat.le_of_ble_eq_true hle
      refine ⟨_, hk, tri_val (by simp) fun a G w φ Hx hs hr ha => ?_⟩
      obtain ⟨b, j, h1, h2⟩ := hr x _ hop hx
      obtain ⟨us, g1, g2, g3, g4⟩ := repVs_d (φ := φ) (repRow_take h2 e.size)
      refine ⟨_, run a b j w _ h1 (run_loadVar_many w htt he hagg b j us (by rw [g1]; simp; omega) fun i v hi => hs.inv _ _ _ (g4 i v hi)), ⟨us, rfl, g2, g3⟩⟩
    · rename_i hagg
      split at h
      · rename_i d ds
        refine ⟨_, h, tri_val (by simp) fun a G w φ Hx hs hr ha => ?_⟩
        obtain ⟨b, j, h1, ⟨u, h2, h3⟩, _⟩ := hr x _ hop hx
        exact ⟨u, run a b j w _ h1 (run_loadVar_one w htt he hagg b j (hs.inv _ _ _ h2)), h3⟩
      · exact h.elim
  · rename_i id i off
    split at h
    · rename_i esz rows hH
      have hid := lt_of_get hH
      obtain ⟨row, hrow, h⟩ := h
      have key : ∀ (G : Imm) (w : World) (φ : Loc) (Hx : Hp) (v : Value), Sit G w φ Hx → Hx id = H[id]? → V.rep G φ (.eptr id i off) v → ∃ b us T, v = .pointer (some ⟨b, i * esz + off, none⟩) ∧ w.heap[b]? = some (.cells (List.toArray us) T (0, 0)) ∧ ∀ (j : Nat) d, row[j]? = some d → ∃ u, us[i * esz + j]? = some u ∧ d.rep G u := by
        intro G w φ Hx v hs hHx hv
        obtain ⟨b, c, h1, h2⟩ := hv
        obtain ⟨b', T, us, k1, k2, k3, k4, k5⟩ := hs.holds id _ (hHx.trans hH)
        rw [h1] at k1; injection k1 with k1; injection k1 with k1 k1'; injection k1 with k1; injection k1 with k1; subst k1; subst k1'
        exact ⟨b, us, T, h2, k2, (k4 i row hrow).2⟩
      split at h
      · rename_i hagg
        obtain ⟨hle, hk⟩ := condP_out h
        have hle := Nat.le_of_ble_eq_true hle
        refine ⟨_, hk, tri_val (by simpa using hid) fun a G w φ Hx hs hr ha => ?_⟩
        obtain ⟨b, us, T, h1, h2, h3⟩ := key G w φ Hx _ hs (ha id (by simp)) (hr x _ hop hx)
        obtain ⟨vs, g1, g2, g3, g4⟩ := gather (G := G) (φ := φ) (f := fun k => us[k]?) ((row.drop off).take e.size) (i * esz + off) (fun j d hj => by
          rw [List.getElem?_take] at hj
          split at hj
          · rw [List.getElem?_drop] at hj
            obtain ⟨u, q1, q2⟩ := h3 _ d hj
            exact ⟨u, by rw [Nat.add_assoc]; exact q1, q2⟩
          · cases hj)
        exact ⟨_, run a b _ w _ h1 (run_loadVar_many w htt he hagg b _ vs (by rw [g1]; simp; omega) fun j v hj => by rw [cell_us w h2]; exact g4 j v hj), ⟨vs, rfl, g2, g3⟩⟩
      · rename_i hagg
        split at h
        · rename_i d ds hd
          refine ⟨_, h, tri_val (by simpa using hid) fun a G w φ Hx hs hr ha => ?_⟩
          obtain ⟨b, us, T, h1, h2, h3⟩ := key G w φ Hx _ hs (ha id (by simp)) (hr x _ hop hx)
          have h0 : row[off]? = some d := by
            have : (row.drop off)[0]? = some d := by rw [hd]; rfl
            simpa using this
          obtain ⟨u, q1, q2⟩ := h3 off d h0
          exact ⟨u, run a b _ w _ h1 (run_loadVar_one w htt he hagg b _ (by rw [cell_us w h2]; exact q1)), q2⟩
        · exact h.elim
    · exact h.elim
  · exact h.elim
end
end Go.Proofs.Ytlafnhpmhflnaaa.Q
