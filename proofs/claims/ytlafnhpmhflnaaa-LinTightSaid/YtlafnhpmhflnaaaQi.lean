/- Structs and slices written out; slices made; appending. No condition. -/
import Derived.Test.YtlafnhpmhflnaaaQh
set_option linter.unusedVariables false
set_option linter.unusedSectionVars false
set_option linter.unnecessarySimpa false
set_option linter.unusedSimpArgs false
namespace Go.Proofs.Ytlafnhpmhflnaaa.Q
variable [Amb]
section
variable {P : Program} {tt : TT} {o : Oper} {ρ : Env} {H : List Ob} {K : Eff → Prop}

def placesV (tt : TT) : List (Nat × TypeId) → Option (List (Nat × Nat))
  | [] => some []
  | (off, t) :: r => match tt t with
    | some e => match placesV tt r with
      | some ps => some ((off, e.size) :: ps)
      | none => none
    | none => none
theorem run_places (htt : TTok P tt) (w : World) : ∀ (fs : List Field) (ps : List (Nat × Nat)), placesV tt (fs.map fun f => (f.offset, f.type)) = some ps →
    (fs.mapM (m := Sem) fun f => do pure (f.offset, ← sizeOf f.type)).run P w = .ok ps w
  | [], ps, h => by simp [placesV] at h; subst h; rfl
  | f :: fs, ps, h => by
    rw [List.map_cons] at h
    unfold placesV at h
    split at h
    · rename_i e he
      split at h
      · rename_i qs hqs
        injection h with h; subst h
        rw [List.mapM_cons, Sem.run_bind]
        have ih := run_places htt w fs qs hqs
        simp only [bind_pure_comp] at ih
        simp [run_sizeOf w htt he, ih]
      · cases h
    · cases h
def pBuild (tt : TT) (t : TypeId) (parts : List (Nat × V)) (K : Eff → Prop) : Prop :=
  match tt t with
  | some e =>
    match e.zero with
    | some z =>
      match e.kind with
      | .struct fs => match placesV tt fs with
        | some ps => match fillV (fun i => ps[i]?) z.cells parts with
          | some cs => condP z.cellB (kv K (.agg cs))
          | none => False
        | none => False
      | .arr n el => match tt el with
        | some te => match fillV (fun i => some (i * te.size, te.size)) z.cells parts with
          | some cs => condP z.cellB (kv K (.agg cs))
          | none => False
        | none => False
      | _ => False
    | none => False
  | none => False
theorem pBuild_sem (htt : TTok P tt) {t : TypeId} {parts : Array (Nat × Operand)} {xs : List (Nat × V)} (ho : o.op = .build t parts) (hx : evParts ρ parts.toList = some xs) (h : pBuild tt t xs K) : ∃ e, K e ∧ Tri P o ρ H e := by
  have hm : ∀ (a : Act) (G : Imm) (φ : Loc), OpRep o ρ a G φ → ∀ p ∈ parts.toList, ∀ X, ev ρ p.2 = some X → X.rep G φ (a.eval p.2) := by
    intro a G φ hr p hp X hX
    refine hr p.2 X ?_ hX
    rw [ho]
    simp [Op.operands]
    exact ⟨p.1, by simpa using hp⟩
  have hparts : ∀ (a : Act), (parts.map fun (i, x) => (i, a.eval x)).toList = parts.toList.map fun p => (p.1, a.eval p.2) := by
    intro a; simp
  unfold pBuild at h
  split at h
  · rename_i e he
    obtain ⟨ti, d, h1, h2, _, _, h3, _⟩ := tt_get htt he
    split at h
    · rename_i z hz
      split at h
      · rename_i fs hk
        rw [hk] at h3
        obtain ⟨gs, rfl, hgs⟩ := mkK_struct h3
        split at h
        · rename_i ps hps
          split at h
          · rename_i cs hcs
            obtain ⟨hc, h⟩ := condP_out h
            refine kv_sem h fun a G w φ hi hr => ?_
            obtain ⟨v, v1, v2, _⟩ := run_zero (P := P) w htt he hz
            obtain ⟨r1, r2⟩ := V.cells_rep' (v2 G φ) hc
            obtain ⟨us', g1, g2, g3⟩ := fill_rep a (us := v.cells) (hm a G φ hr) hx hcs r1 r2
            refine ⟨.agg us', ?_, ⟨us'.toList, by simp, g2, g3⟩⟩
            rw [← hgs] at hps
            have hpl := run_places (P := P) htt w _ _ hps
            have hfill : Instr.fill (fun x => ps[x]?) v.cells (parts.toList.map fun p => (p.1, a.eval p.2)) = some us' := g1
            unfold execOp
            rw [ho]
            simp only [Instr.build, Sem.run_bind, v1, Result.andThen_ok, run_underlying h2, Array.mapM_eq_mapM_toList, Sem.run_map, hpl, hparts]
            simp [hfill]
          · exact h.elim
        · exact h.elim
      · rename_i n el hk
        rw [hk] at h3
        rw [mkK_arr h3] at h2
        split at h
        · rename_i te hte
          split at h
          · rename_i cs hcs
            obtain ⟨hc, h⟩ := condP_out h
            refine kv_sem h fun a G w φ hi hr => ?_
            obtain ⟨v, v1, v2, _⟩ := run_zero (P := P) w htt he hz
            obtain ⟨r1, r2⟩ := V.cells_rep' (v2 G φ) hc
            obtain ⟨us', g1, g2, g3⟩ := fill_rep a (us := v.cells) (hm a G φ hr) hx hcs r1 r2
            refine ⟨.agg us', ?_, ⟨us'.toList, by simp, g2, g3⟩⟩
            unfold execOp
            rw [ho]
            simp only [Instr.build, Sem.run_bind, v1, Result.andThen_ok, run_underlying h2, run_sizeOf w htt hte, hparts]
            simp [g1]
          · exact h.elim
        · exact h.elim
      · exact h.elim
    · exact h.elim
  · exact h.elim

/-! ### rows in cells -/
/-- Cells that say rows. -/
def RowsIn (G : Imm) (us : List Value) (e : Nat) (rows : List (List D)) : Prop := us.length = rows.length * e ∧ ∀ (i : Nat) r, rows[i]? = some r → r.length = e ∧ ∀ (j : Nat) d, r[j]? = some d → ∃ u, us[i * e + j]? = some u ∧ d.rep G u
theorem RowsIn.one {G : Imm} {us : List Value} {e : Nat} {rows : List (List D)} (h : RowsIn G us e rows) : ∀ u ∈ us, u.oneCell' = true := by
  intro u hu
  obtain ⟨k, hk⟩ := List.getElem?_of_mem hu
  have hlt := lt_of_get hk
  rw [h.1] at hlt
  have he : 0 < e := by
    rcases Nat.eq_zero_or_pos e with h0 | h0
    · rw [h0] at hlt; omega
    · exact h0
  have hi : k / e < rows.length := by rw [Nat.div_lt_iff_lt_mul he]; exact hlt
  obtain ⟨h1, h2⟩ := h.2 (k / e) rows[k / e] (List.getElem?_eq_getElem hi)
  have hj : k % e < rows[k / e].length := by rw [h1]; exact Nat.mod_lt _ he
  obtain ⟨u', g1, g2⟩ := h2 (k % e) _ (List.getElem?_eq_getElem hj)
  rw [Nat.div_add_mod' k e, hk] at g1
  injection g1 with g1
  rw [g1]; exact D.rep_one g2
theorem RowsIn.mono {G G' : Imm} {us : List Value} {e : Nat} {rows : List (List D)} (h : RowsIn G us e rows) (hle : G.le G') : RowsIn G' us e rows :=
  ⟨h.1, fun i r hi => ⟨(h.2 i r hi).1, fun j d hj => by obtain ⟨u, g1, g2⟩ := (h.2 i r hi).2 j d hj; exact ⟨u, g1, d.rep_mono hle u g2⟩⟩⟩
theorem RowsIn.append {G : Imm} {us vs : List Value} {e : Nat} {rows qs : List (List D)} (h : RowsIn G us e rows) (k : RowsIn G vs e qs) : RowsIn G (us ++ vs) e (rows ++ qs) := by
  refine ⟨by rw [List.length_append, List.length_append, h.1, k.1, Nat.add_mul], fun i r hi => ?_⟩
  rw [List.getElem?_append] at hi
  split at hi
  · rename_i hlt
    refine ⟨(h.2 i r hi).1, fun j d hj => ?_⟩
    obtain ⟨u, g1, g2⟩ := (h.2 i r hi).2 j d hj
    exact ⟨u, by rw [List.getElem?_append_left (lt_of_get g1)]; exact g1, g2⟩
  · rename_i hge
    refine ⟨(k.2 _ r hi).1, fun j d hj => ?_⟩
    obtain ⟨u, g1, g2⟩ := (k.2 _ r hi).2 j d hj
    have e1 : rows.length * e + (i - rows.length) * e = i * e := by rw [← Nat.add_mul]; congr 1; omega
    refine ⟨u, ?_, g2⟩
    rw [List.getElem?_append_right (by rw [h.1]; omega), h.1, show i * e + j - rows.length * e = (i - rows.length) * e + j by omega]
    exact g1
theorem RowsIn.set {G : Imm} {us : List Value} {e : Nat} {rows : List (List D)} (h : RowsIn G us e rows) {i : Nat} (hi : i < rows.length) {vs : List Value} {row : List D} (hl : row.length = e) (hv : vs.length = e) (hr : ∀ (j : Nat) d, row[j]? = some d → ∃ u, vs[j]? = some u ∧ d.rep G u) :
    RowsIn G (us.take (i * e) ++ vs ++ us.drop (i * e + e)) e (rows.set i row) := by
  have hmul : (i + 1) * e ≤ rows.length * e := Nat.mul_le_mul_right _ hi
  rw [Nat.succ_mul] at hmul
  have hul := h.1
  refine ⟨by rw [List.length_append, List.length_append, List.length_take, List.length_drop, List.length_set]; omega, fun k r hk => ?_⟩
  rw [List.getElem?_set] at hk
  by_cases hik : i = k
  · subst hik
    simp only [if_true, hi] at hk
    injection hk with hk; subst hk
    refine ⟨hl, fun j d hj => ?_⟩
    have hjl := lt_of_get hj
    rw [mid_get us vs (i * e) e hv (by omega), if_neg (by omega), if_pos (by omega), show i * e + j - i * e = j by omega]
    exact hr j d hj
  · simp only [hik, if_false] at hk
    refine ⟨(h.2 k r hk).1, fun j d hj => ?_⟩
    have hjl := lt_of_get hj
    rw [(h.2 k r hk).1] at hjl
    rw [mid_get us vs (i * e) e hv (by omega)]
    rcases Nat.lt_or_gt_of_ne hik with hlt | hgt
    · have : (i + 1) * e ≤ k * e := Nat.mul_le_mul_right _ hlt
      rw [Nat.succ_mul] at this
      rw [if_neg (by omega), if_neg (by omega)]
      exact (h.2 k r hk).2 j d hj
    · have : (k + 1) * e ≤ i * e := Nat.mul_le_mul_right _ hgt
      rw [Nat.succ_mul] at this
      rw [if_pos (by omega)]
      exact (h.2 k r hk).2 j d hj
theorem zeros_get (z : Array Value) (n j : Nat) (hj : j < n) : (madeCells z n).toList[j]? = some z[j % z.size]! := by
  simp [madeCells, hj]
theorem zeros_rows {G : Imm} {z : Array Value} {zr : List D} (hz : z.size = zr.length) (hr : ∀ (j : Nat) d, zr[j]? = some d → ∃ u, z.toList[j]? = some u ∧ d.rep G u) (n : Nat) : RowsIn G (madeCells z (n * zr.length)).toList zr.length (List.replicate n zr) := by
  refine ⟨by simp [size_madeCells], fun i r hi => ?_⟩
  rw [List.getElem?_replicate] at hi
  split at hi
  · rename_i hlt
    injection hi with hi; subst hi
    refine ⟨rfl, fun j d hj => ?_⟩
    obtain ⟨u, g1, g2⟩ := hr j d hj
    have hjl := lt_of_get hj
    have hm : (i + 1) * zr.length ≤ n * zr.length := Nat.mul_le_mul_right _ hlt
    rw [Nat.succ_mul] at hm
    refine ⟨u, ?_, g2⟩
    rw [zeros_get _ _ _ (by omega), hz]
    have : (i * zr.length + j) % zr.length = j := by rw [Nat.mul_comm, Nat.mul_add_mod]; exact Nat.mod_eq_of_lt hjl
    rw [this]
    have hjz : j < z.size := by omega
    rw [Array.getElem?_toList, Array.getElem?_eq_getElem hjz] at g1
    injection g1 with g1
    rw [getElem!_pos z j hjz, g1]
  · cases hi

/-- What is known for good, and a new block's cells. -/
def addBlk (G : Imm) (b : Nat) (us : List Value) : Imm := fun b' o => if b' = b then us[o]? else G b' o
theorem addBlk_le {G : Imm} {b : Nat} (h : ∀ o, G b o = none) (us : List Value) : G.le (addBlk G b us) := fun b' o v e => by
  unfold addBlk
  split
  · rename_i hb; rw [hb, h] at e; cases e
  · exact e
theorem RowsIn.rows {G : Imm} {us : List Value} {e : Nat} {rows : List (List D)} (h : RowsIn G us e rows) {G' : Imm} (hle : G.le G') {b o : Nat} (hG : ∀ (j : Nat) u, us[j]? = some u → G' b (o + j) = some u) : repRows G' b o e rows :=
  repRows_of fun i r hi => ⟨(h.2 i r hi).1, repRow_of fun j d hj => by
    obtain ⟨u, g1, g2⟩ := (h.2 i r hi).2 j d hj
    exact ⟨u, by rw [Nat.add_assoc]; exact hG _ u g1, d.rep_mono hle u g2⟩⟩
theorem Inv.addBlk {G : Imm} {w : World} (h : Inv G w) (us vs : List Value) (T : TypeId) : Inv (addBlk G w.heap.size us) (w.alloc (.cells (us ++ vs).toArray T)) := fun b o v hg => by
  unfold Q.addBlk at hg
  split at hg
  · rename_i hb
    subst hb
    rw [cell_us _ (heap_new w _), List.getElem?_append_left (lt_of_get hg)]
    exact hg
  · exact (h.alloc _) b o v hg
theorem heap_old (w : World) (o : Obj) {b : Nat} (hb : b < w.heap.size) : (w.alloc o).heap[b]? = w.heap[b]? := by
  show (w.heap.push o)[b]? = _
  rw [Array.getElem?_push, if_neg (by omega)]
/-- A new block that never changes. -/
theorem Sit.imm {G : Imm} {w : World} {φ : Loc} {Hx : Hp} (hs : Sit G w φ Hx) (us : List Value) (T : TypeId) :
    Sit (addBlk G w.heap.size us) (w.alloc (.cells us.toArray T)) φ Hx ∧ Goes G w φ Hx (addBlk G w.heap.size us) (w.alloc (.cells us.toArray T)) φ Hx := by
  have hfresh := hs.inv.fresh (Nat.le_refl _)
  refine hs.step (fun _ => False) (addBlk_le hfresh us) (Loc.le.refl _) (fun _ _ _ => rfl) rfl rfl rfl (by simp) ?_ (fun _ _ => rfl) (by simpa using hs.inv.addBlk us [] T) ?_ ?_ ?_ ?_
  · intro b hb _
    refine ⟨heap_old w _ hb, fun o => ?_⟩
    unfold addBlk
    rw [if_neg (by omega)]
  all_goals (intros; contradiction)

/-! ### slices written out -/
def rowsOf (sz : Nat) : List (List D) → List (Nat × V) → Option (List (List D))
  | rows, [] => some rows
  | rows, (i, x) :: r => match toDs x.cells with
    | some ds => bif x.cellB && Nat.beq ds.length sz && Nat.blt i rows.length then rowsOf sz (rows.set i ds) r else none
    | none => none
def pBS (tt : TT) (t : TypeId) (len : Nat) (parts : List (Nat × V)) (K : Eff → Prop) : Prop :=
  match tt t with
  | some e =>
    match e.kind with
    | .slice el => match tt el with
      | some te => match te.zero with
        | some z => match toDs z.cells with
          | some zr => match rowsOf te.size (List.replicate len zr) parts with
            | some rows => condP (z.cellB && Nat.beq zr.length te.size && Nat.ble 1 te.size && Nat.ble (len * te.size) 16777216) (kv K (.fsl rows))
            | none => False
          | none => False
        | none => False
      | none => False
    | _ => False
  | none => False
theorem rowsOf_rep {sz : Nat} {G : Imm} {φ : Loc} (a : Act) : ∀ {parts : List (Nat × Operand)} {xs : List (Nat × V)} {rows rows' : List (List D)} {us : Array Value},
    (∀ p ∈ parts, ∀ X, ev ρ p.2 = some X → X.rep G φ (a.eval p.2)) → evParts ρ parts = some xs → rowsOf sz rows xs = some rows' → RowsIn G us.toList sz rows →
    ∃ us' : Array Value, Instr.fill (fun i => some (i * sz, sz)) us (parts.map fun p => (p.1, a.eval p.2)) = some us' ∧ RowsIn G us'.toList sz rows' ∧ rows'.length = rows.length
  | [], xs, rows, rows', us, hm, h1, h2, h3 => by
    simp [evParts] at h1; subst h1
    simp [rowsOf] at h2; subst h2
    exact ⟨us, rfl, h3, rfl⟩
  | (i, x) :: r, xs, rows, rows', us, hm, h1, h2, h3 => by
    unfold evParts at h1
    split at h1
    · rename_i X hX
      split at h1
      · rename_i ys hys
        injection h1 with h1; subst h1
        unfold rowsOf at h2
        split at h2
        · rename_i ds hds
          cases hcond : (X.cellB && Nat.beq ds.length sz && Nat.blt i rows.length) with
          | false => rw [hcond] at h2; cases h2
          | true =>
            rw [hcond] at h2
            simp only [Bool.and_eq_true] at hcond
            obtain ⟨⟨c1, c2⟩, c3⟩ := hcond
            have c2 := Nat.eq_of_beq_eq_true c2
            have c3 : i < rows.length := Nat.le_of_ble_eq_true c3
            have hrep : X.rep G φ (a.eval x) := hm (i, x) List.mem_cons_self X hX
            obtain ⟨r1, r2⟩ := V.cells_rep' hrep c1
            obtain ⟨d1, d2⟩ := toDs_rep r1 hds
            have hl := repVs_len r1
            have hsz : (a.eval x).cells.size = sz := by
              have : (a.eval x).cells.toList.length = sz := by omega
              simpa using this
            have hmul : (i + 1) * sz ≤ rows.length * sz := Nat.mul_le_mul_right _ c3
            rw [Nat.succ_mul] at hmul
            have hus := h3.1
            have hfit : i * sz + sz ≤ us.size := by simp at hus; omega
            have hfold := fold_set (i * sz) (a.eval x).cells.toList 0 us (by simp; omega)
            obtain ⟨us', g1, g2, g3⟩ := rowsOf_rep a (us := ((a.eval x).cells.toList.zipIdx 0).foldl (fun cs (x : Value × Nat) => cs.setIfInBounds (i * sz + x.2) x.1) us) (fun p hp => hm p (List.mem_cons_of_mem _ hp)) hys h2
              (by rw [hfold]; simp only [Nat.add_zero, Array.length_toList, hsz]; exact h3.set c3 c2 (by simpa using hsz) d2)
            refine ⟨us', ?_, g2, by rw [g3]; simp⟩
            rw [List.map_cons, Instr.fill]
            have hcs : ¬ (i * sz + sz > us.size) := by omega
            simp only [hsz, ne_eq, not_true_eq_false, decide_false, Bool.false_or]
            rw [← Array.foldl_toList, Array.toList_zipIdx]
            rw [if_neg (by simpa using hcs)]
            exact g1
        · cases h2
      · cases h1
    · cases h1
theorem pBS_sem (htt : TTok P tt) {t : TypeId} {len : Nat} {parts : Array (Nat × Operand)} {xs : List (Nat × V)} (ho : o.op = .buildSlice t len parts) (hx : evParts ρ parts.toList = some xs) (h : pBS tt t len xs K) : ∃ e, K e ∧ Tri P o ρ H e := by
  have hm : ∀ (a : Act) (G : Imm) (φ : Loc), OpRep o ρ a G φ → ∀ p ∈ parts.toList, ∀ X, ev ρ p.2 = some X → X.rep G φ (a.eval p.2) := by
    intro a G φ hr p hp X hX
    refine hr p.2 X ?_ hX
    rw [ho]
    simp [Op.operands]
    exact ⟨p.1, by simpa using hp⟩
  have hparts : ∀ (a : Act), (parts.map fun (i, x) => (i, a.eval x)).toList = parts.toList.map fun p => (p.1, a.eval p.2) := by
    intro a; simp
  unfold pBS at h
  split at h
  · rename_i e he
    obtain ⟨ti, d, h1, h2, _, _, h3, _⟩ := tt_get htt he
    split at h
    · rename_i el hk
      rw [hk] at h3; rw [mkK_slice h3] at h2
      split at h
      · rename_i te hte
        split at h
        · rename_i z hz
          split at h
          · rename_i zr hzr
            split at h
            · rename_i rows hrows
              obtain ⟨hc, h⟩ := condP_out h
              simp only [Bool.and_eq_true] at hc
              obtain ⟨⟨⟨c0, c1⟩, c2⟩, c3⟩ := hc
              have c1 := Nat.eq_of_beq_eq_true c1
              have c2 := Nat.le_of_ble_eq_true c2
              have c3 := Nat.le_of_ble_eq_true c3
              refine ⟨_, h, ⟨by simp, by simp, fun a G w φ Hx K Q hs hr ha hf hK => ?_⟩⟩
              obtain ⟨v, v1, v2, _⟩ := run_zero (P := P) w htt hte hz
              obtain ⟨r1, r2⟩ := V.cells_rep' (v2 G φ) c0
              obtain ⟨d1, d2⟩ := toDs_rep r1 hzr
              have hvs : v.cells.size = zr.length := by
                have := repVs_len r1
                simp at this; omega
              have hz0 := zeros_rows (G := G) hvs d2 len
              rw [c1] at hz0
              obtain ⟨us', g1, g2, g3⟩ := rowsOf_rep a (hm a G φ hr) hx hrows hz0
              have hstep := hs.imm us'.toList el
              have hrl : rows.length = len := by rw [g3]; simp
              rw [upd_nil] at hK
              have hrun : (execOp a.eval o).run P w = .ok (.value (.slice (some ⟨w.heap.size, 0, none⟩) len len)) (w.alloc (.cells us'.toList.toArray el)) := by
                unfold execOp
                rw [ho]
                have hsmall : ¬ len * te.size > 2 ^ 24 := by omega
                by_cases hl0 : len * te.size = 0
                · have hl : len = 0 := by
                    rcases Nat.mul_eq_zero.1 hl0 with h0 | h0
                    · exact h0
                    · omega
                  subst hl
                  have g1' : Instr.fill (fun i => some (i * te.size, te.size)) #[] (parts.toList.map fun p => (p.1, a.eval p.2)) = some us' := by
                    have : madeCells v.cells (0 * te.size) = #[] := by simp [madeCells, Array.range_zero']
                    rw [← this]; exact g1
                  simp only [Instr.buildSlice, Sem.run_bind, run_underlying h2, Result.andThen_ok, run_sizeOf w htt hte, hparts]
                  simp [g1', newRow, Array.range_zero']
                · simp only [Instr.buildSlice, Sem.run_bind, run_underlying h2, Result.andThen_ok, run_sizeOf w htt hte, hparts, if_neg hsmall, if_neg hl0, Sem.run_pure, v1]
                  have g1' : Instr.fill (fun i => some (i * te.size, te.size)) ((Array.range (len * te.size)).map (v.cells[· % v.cells.size]!)) (parts.toList.map fun p => (p.1, a.eval p.2)) = some us' := g1
                  simp [g1', newRow]
              unfold Oper.wp
              rw [hrun, Oper.upon_value]
              refine hK _ _ _ _ hstep.1 hstep.2 ⟨some (w.heap.size, 0), by rw [hrl]; rfl, fun _ => ⟨w.heap.size, 0, te.size, rfl, g2.rows hstep.2.le fun j u hj => ?_⟩⟩
              unfold addBlk
              rw [if_pos rfl, Nat.zero_add]; exact hj
            · exact h.elim
          · exact h.elim
        · exact h.elim
      · exact h.elim
    · exact h.elim
  · exact h.elim
end
end Go.Proofs.Ytlafnhpmhflnaaa.Q
