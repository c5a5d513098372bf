/- A region whose order is open is as in the text's order. No condition. -/
import Derived.Test.YtlafnhpmhflnaaaQp
set_option linter.unusedVariables false
set_option linter.unusedSectionVars false
set_option linter.unnecessarySimpa false
set_option linter.unusedSimpArgs false
namespace Go.Proofs.Ytlafnhpmhflnaaa.Q
variable [Amb]

def cnt (D : Nat → Bool) : Nat → Nat
  | 0 => 0
  | k + 1 => cnt D k + (if D k then 0 else 1)
theorem also_ne {D : Nat → Bool} {j k : Nat} (h : k ≠ j) : also D j k = D k := if_neg h
theorem also_eq {D : Nat → Bool} {j : Nat} : also D j j = true := if_pos rfl
theorem cnt_also {D : Nat → Bool} {j : Nat} (hj : D j = false) : ∀ n, j < n → cnt (also D j) n + 1 = cnt D n
  | 0, h => by omega
  | n + 1, h => by
    have hsame : ∀ m, m ≤ j → cnt (also D j) m = cnt D m := by
      intro m
      induction m with
      | zero => intro _; rfl
      | succ m ih =>
        intro hm
        simp only [cnt, ih (by omega), also_ne (D := D) (show m ≠ j by omega)]
    by_cases hjn : j = n
    · subst hjn
      simp only [cnt, hsame j (Nat.le_refl _), also_eq, hj]
      simp
    · have ih := cnt_also hj n (by omega)
      simp only [cnt, also_ne (D := D) (show n ≠ j by omega)]
      omega
theorem cnt_zero {D : Nat → Bool} : ∀ n, cnt D n = 0 → ∀ k, k < n → D k = true
  | 0, _, k, hk => by omega
  | n + 1, h, k, hk => by
    simp only [cnt] at h
    by_cases hkn : k = n
    · subst hkn
      cases hD : D k with
      | true => rfl
      | false => rw [hD] at h; simp at h
    · exact cnt_zero n (by omega) k (by omega)
theorem cnt_least {D : Nat → Bool} : ∀ n, 0 < cnt D n → ∃ k, k < n ∧ D k = false ∧ ∀ i, i < k → D i = true
  | 0, h => by simp [cnt] at h
  | n + 1, h => by
    by_cases h0 : 0 < cnt D n
    · obtain ⟨k, h1, h2, h3⟩ := cnt_least n h0
      exact ⟨k, by omega, h2, h3⟩
    · refine ⟨n, Nat.lt_succ_self _, ?_, cnt_zero n (by omega)⟩
      simp only [cnt] at h
      cases hD : D n with
      | false => rfl
      | true => rw [hD] at h; simp at h; omega

/-- What an effect makes of an object. -/
def effAt (base : Nat) (e : Option Eff) (i : Nat) : Option (Option Ob) := match e with
  | none => none
  | some e => match lkO e.wr i with
    | some ob => some (some ob)
    | none => if base ≤ i ∧ i < base + e.nw.length then some e.nw[i - base]? else none
theorem effAt_upd (H : Hp) (base : Nat) (e : Eff) (i : Nat) : upd H base e i = match effAt base (some e) i with | some v => v | none => H i := by
  unfold upd effAt
  dsimp only
  cases lkO e.wr i with
  | some ob => rfl
  | none =>
    dsimp only
    split <;> rfl
theorem effAt_wrote {base : Nat} {e : Eff} {i : Nat} (h : effAt base (some e) i ≠ none) : i ∈ wrote base e := by
  unfold effAt at h
  dsimp only at h
  unfold wrote newIds
  cases hk : lkO e.wr i with
  | some ob => exact List.mem_append_left _ (List.mem_map.2 ⟨_, lkO_mem hk, rfl⟩)
  | none =>
    rw [hk] at h
    dsimp only at h
    split at h
    · rename_i hh
      refine List.mem_append_right _ (List.mem_range'.2 ⟨i - base, by omega, by omega⟩)
    · exact absurd rfl h
/-- Slots by a function. -/
def EnvF (G : Imm) (φ : Loc) (f : Nat → Option V) (a : Act) : Prop := ∀ t x, f t = some x → ∃ v, a.tmps[t]? = some v ∧ x.rep G φ v

section
variable {P : Program} {n : Nat} {ops : List Oper} {S : Nat → Stp}
variable (hS : ∀ m o, ops[m]? = some o → StpOk P n ops o (S m) (S (m + 1)))
def wrR (ops : List Oper) (S : Nat → Stp) (k : Nat) (t : Nat) : Option (Option V) := match ops[k]? with
  | some o => if o.dst = some t then some (some (S k).x) else none
  | none => none
def wrH (S : Nat → Stp) (k : Nat) (i : Nat) : Option (Option Ob) := effAt (S k).H.length (S k).e i
abbrev curR (ops : List Oper) (S : Nat → Stp) (D : Nat → Bool) : Nat → Option V := cur (fun t => lk (S 0).ρ t) (wrR ops S) D ops.length
abbrev curH (ops : List Oper) (S : Nat → Stp) (D : Nat → Bool) : Hp := cur (hp (S 0).H) (wrH S) D ops.length
include hS
theorem cur_ρ : ∀ k, k ≤ ops.length → ∀ t, cur (fun t => lk (S 0).ρ t) (wrR ops S) (fun _ => true) k t = lk (S k).ρ t
  | 0, _, t => rfl
  | k + 1, h, t => by
    have ho : ops[k]? = some ops[k] := List.getElem?_eq_getElem (by omega)
    rw [(hS k _ ho).ρ]
    simp only [cur, wrR, ho]
    cases hd : ops[k].dst with
    | none => simp [put]; exact cur_ρ k (by omega) t
    | some d =>
      simp only [put, lk_put]
      by_cases hdt : d = t
      · subst hdt; simp
      · rw [if_neg (by simpa using hdt), if_neg hdt]; exact cur_ρ k (by omega) t
theorem cur_Hh : ∀ k, k ≤ ops.length → ∀ i, cur (hp (S 0).H) (wrH S) (fun _ => true) k i = hp (S k).H i
  | 0, _, i => rfl
  | k + 1, h, i => by
    have ho : ops[k]? = some ops[k] := List.getElem?_eq_getElem (by omega)
    have hk := hS k _ ho
    have ih := cur_Hh k (by omega) i
    rw [hk.H]
    simp only [cur, wrH]
    cases he : (S k).e with
    | none => simpa [effAt] using ih
    | some e =>
      have := upd_hp (S k).H e (hk.tri e he).wr
      rw [← this, effAt_upd]
      cases effAt (S k).H.length (some e) i with
      | some v => rfl
      | none => exact ih
theorem H_grows : ∀ m k, k ≤ m → m ≤ ops.length → (S k).H.length ≤ (S m).H.length := by
  intro m
  induction m with
  | zero => intro k hk _; have : k = 0 := by omega
            subst this; exact Nat.le_refl _
  | succ m ih =>
    intro k hk hm
    by_cases hkm : k = m + 1
    · subst hkm; exact Nat.le_refl _
    · refine Nat.le_trans (ih k (by omega) (by omega)) ?_
      have ho : ops[m]? = some ops[m] := List.getElem?_eq_getElem (by omega)
      rw [(hS m _ ho).H]
      split
      · simp [updL_eq, setAll_len]
      · exact Nat.le_refl _
theorem H_next {k : Nat} (hk : k < ops.length) {e : Eff} (he : (S k).e = some e) : (S (k + 1)).H.length = (S k).H.length + e.nw.length := by
  have ho : ops[k]? = some ops[k] := List.getElem?_eq_getElem hk
  rw [(hS k _ ho).H, he]
  simp [updL_eq, setAll_len]

variable (hC : ∀ m m', m < m' → m' < ops.length → apartB ((S m).fp m) ((S m').fp m') = true ∨ waits ops m' m = true) (hB : slotsB ops = true)
include hC hB
theorem any_sem {r : Option Nat} (hD0 : ∀ (i : Nat) o, ops[i]? = some o → ∀ c, o.op ≠ .defer c) {Q : Exit → Act → World → Prop} {G0 : Imm} {w0 : World} {φ0 : Loc} {H0 : Hp} {df : List Deferred}
    (hQ : ∀ G w φ a, Rep n G w φ (S ops.length).ρ (S ops.length).H a → a.defers = df → Goes G0 w0 φ0 H0 G w φ (hp (S ops.length).H) → Q .normal a w) :
    ∀ (fuel : Nat) (listed : Array Bool) (a : Act) (G : Imm) (w : World) (φ : Loc), listed.size = ops.length → cnt (fun k => listed.getD k true) ops.length = fuel →
      (∀ j o, ops[j]? = some o → listed.getD j true = true → ∀ i ∈ edges o, listed.getD i true = true) →
      Sit G w φ (curH ops S fun k => listed.getD k true) → EnvF G φ (curR ops S fun k => listed.getD k true) a → a.defers = df → a.tmps.size = n → Goes G0 w0 φ0 H0 G w φ (curH ops S fun k => listed.getD k true) →
      wpAnyIn (Fr r) 0 P .any ops.toArray Q fuel listed a w := by
  have hback : ∀ j o, ops[j]? = some o → ∀ i ∈ edges o, i < j := by
    intro j o ho i hi
    have := List.all_eq_true.1 hB j (List.mem_range.2 (lt_of_get ho))
    rw [ho] at this
    simp only [Bool.and_eq_true] at this
    exact Nat.le_of_ble_eq_true (List.all_eq_true.1 this.1 i hi)
  have hslot : ∀ i j p o, i < j → ops[i]? = some p → ops[j]? = some o → (disjB p.dst.toList (o.dst.toList ++ reads ops o) = true ∧ disjB o.dst.toList (reads ops p) = true) ∨ waits ops j i = true := by
    intro i j p o hij hp ho
    have := List.all_eq_true.1 hB j (List.mem_range.2 (lt_of_get ho))
    rw [ho] at this
    simp only [Bool.and_eq_true] at this
    have := List.all_eq_true.1 this.2 i (List.mem_range.2 hij)
    rw [hp] at this
    simp only [Bool.or_eq_true, Bool.and_eq_true] at this
    rcases this with h | h
    · exact .inl h
    · exact .inr h
  have allDone : ∀ (D : Nat → Bool), (∀ k, k < ops.length → D k = true) → (∀ t, curR ops S D t = lk (S ops.length).ρ t) ∧ curH ops S D = hp (S ops.length).H := by
    intro D hD
    refine ⟨fun t => ?_, funext fun i => ?_⟩
    · rw [← cur_ρ hS ops.length (Nat.le_refl _) t]
      exact cur_upto fun k hk h0 => by rw [hD k hk] at h0; cases h0
    · rw [← cur_Hh hS ops.length (Nat.le_refl _) i]
      exact cur_upto fun k hk h0 => by rw [hD k hk] at h0; cases h0
  have mkEdge : ∀ (o : Oper) (i : Nat), i ∈ edges o ↔ ∃ e ∈ o.after, Region.binds .any e = true ∧ e.on = i := by
    intro o i
    unfold edges
    simp only [List.mem_map, List.mem_filter, Array.mem_toList_iff]
    constructor
    · rintro ⟨e, ⟨h1, h2⟩, h3⟩; exact ⟨e, h1, h2, h3⟩
    · rintro ⟨e, h1, h2, h3⟩; exact ⟨e, ⟨h1, h2⟩, h3⟩
  intro fuel
  induction fuel with
  | zero =>
    intro listed a G w φ hsz hcnt hcl hs henv hdef hn hgo
    have hall := cnt_zero ops.length hcnt
    obtain ⟨d1, d2⟩ := allDone _ hall
    refine ⟨?_, hQ G w φ a ⟨by rw [← d2]; exact hs, fun t x hx => henv t x (by rw [d1]; exact hx), hn⟩ hdef (by rw [← d2]; exact hgo)⟩
    rw [List.eq_nil_iff_forall_not_mem]
    intro j hj
    obtain ⟨h1, o, ho, _⟩ := mem_ready.1 hj
    have := hall j (lt_of_get (by simpa using ho))
    rw [this] at h1; cases h1
  | succ fuel ih =>
    intro listed a G w φ hsz hcnt hcl hs henv hdef hn hgo
    generalize hDdef : (fun k => listed.getD k true) = D at *
    have hDk : ∀ k, listed.getD k true = D k := fun k => by rw [← hDdef]
    refine ⟨fun hr => ?_, fun j hj => ?_⟩
    · exfalso
      obtain ⟨k, h1, h2, h3⟩ := cnt_least ops.length (D := D) (by omega)
      have ho : ops[k]? = some ops[k] := List.getElem?_eq_getElem h1
      have : k ∈ Region.ready .any ops.toArray listed := by
        refine mem_ready.2 ⟨by rw [hDk]; exact h2, ops[k], by simpa using ho, fun e he hb => ?_⟩
        have hlt := hback k _ ho e.on ((mkEdge _ _).2 ⟨e, he, hb, rfl⟩)
        have h4 := h3 e.on hlt
        rw [← hDk] at h4
        have hes : e.on < listed.size := by omega
        simpa [Array.getD_eq_getD_getElem?, hes] using h4
      rw [hr] at this; cases this
    · obtain ⟨hj1, o, ho, hj2⟩ := mem_ready.1 hj
      have ho' : ops[j]? = some o := by simpa using ho
      have hjlt := lt_of_get ho'
      have hDj : D j = false := by rw [← hDk]; exact hj1
      have hedge : ∀ i ∈ edges o, D i = true := by
        intro i hi
        obtain ⟨e, he, hb, rfl⟩ := (mkEdge _ _).1 hi
        have h5 := hj2 e he hb
        rw [← hDk]
        have hlt := hback j o ho' _ hi
        have hes : e.on < listed.size := by omega
        simpa [Array.getD_eq_getD_getElem?, hes] using h5
      have hclD : ∀ j o, ops[j]? = some o → D j = true → ∀ i ∈ edges o, D i = true := by
        intro j o h1 h2 i hi
        rw [← hDk]; exact hcl j o h1 (by rw [hDk]; exact h2) i hi
      have hanc : ∀ i, waits ops j i = true → D i = true := anc_closed hclD hback j o ho' hedge
      have hanc2 : ∀ k, k < ops.length → D k = true → waits ops k j ≠ true := by
        intro k hkl hk hm
        have hok : ops[k]? = some ops[k] := List.getElem?_eq_getElem hkl
        have := anc_closed hclD hback k _ hok (hclD k _ hok hk) j hm
        rw [hDj] at this; cases this
      have hst := hS j o ho'
      -- a slot that the operation reads or writes has been written by nobody else than in the text
      have slotNo : ∀ k t, k ≠ j → D k = !decide (k < j) → k < ops.length → (t ∈ reads ops o ∨ o.dst = some t) → wrR ops S k t = none := by
        intro k t hkj hDk' hkl ht
        have hok : ops[k]? = some ops[k] := List.getElem?_eq_getElem hkl
        simp only [wrR, hok]
        by_cases hd : ops[k].dst = some t
        · exfalso
          rcases Nat.lt_or_gt_of_ne hkj with hlt | hgt
          · rcases hslot k j _ _ hlt hok ho' with ⟨h1, _⟩ | h1
            · refine disjB_spec h1 t (by rw [hd]; simp) ?_
              rcases ht with ht | ht
              · exact List.mem_append_right _ ht
              · exact List.mem_append_left _ (by rw [ht]; simp)
            · have := hanc k h1
              rw [hDk'] at this; simp [hlt] at this
          · rcases hslot j k _ _ hgt ho' hok with ⟨h1, h2⟩ | h1
            · rcases ht with ht | ht
              · exact disjB_spec h2 t (by rw [hd]; simp) ht
              · exact disjB_spec h1 t (by rw [ht]; simp) (List.mem_append_left _ (by rw [hd]; simp))
            · exact hanc2 k hkl (by rw [hDk']; simp; omega) h1
        · rw [if_neg hd]
      have slotRead : ∀ t, t ∈ reads ops o → curR ops S D t = lk (S j).ρ t := by
        intro t ht
        rw [← cur_ρ hS j (by omega) t]
        refine cur_read (by omega) (fun k hk h0 => ?_) (fun k h1 h2 h0 => ?_)
        · exact slotNo k t (by omega) (by rw [h0]; simp [hk]) (by omega) (.inl ht)
        · by_cases hkj : k = j
          · subst hkj; rw [hDj] at h0; cases h0
          · exact slotNo k t hkj (by rw [h0]; simp; omega) h2 (.inl ht)
      -- likewise objects
      have objNo : ∀ e k i, (S j).e = some e → k ≠ j → D k = !decide (k < j) → k < ops.length → i ∈ touch (S j).H.length e → wrH S k i = none := by
        intro e k i he hkj hDk' hkl hi
        cases hw : wrH S k i with
        | none => rfl
        | some v =>
          exfalso
          simp only [wrH] at hw
          cases hek : (S k).e with
          | none => rw [hek] at hw; simp [effAt] at hw
          | some e' =>
            rw [hek] at hw
            have hwr := effAt_wrote (base := (S k).H.length) (e := e') (i := i) (by rw [hw]; simp)
            have hfj : (S j).fp j = ⟨j, touch (S j).H.length e, wrote (S j).H.length e⟩ := by simp [Stp.fp, he]
            have hfk : (S k).fp k = ⟨k, touch (S k).H.length e', wrote (S k).H.length e'⟩ := by simp [Stp.fp, hek]
            rcases Nat.lt_or_gt_of_ne hkj with hlt | hgt
            · rcases hC k j hlt hjlt with h1 | h1
              · rw [hfj, hfk] at h1
                simp only [apartB, Bool.and_eq_true] at h1
                exact disjB_spec h1.1 i hwr hi
              · have := hanc k h1
                rw [hDk'] at this; simp [hlt] at this
            · rcases hC j k hgt hkl with h1 | h1
              · rw [hfj, hfk] at h1
                simp only [apartB, Bool.and_eq_true] at h1
                exact disjB_spec h1.2 i hwr hi
              · exact hanc2 k hkl (by rw [hDk']; simp; omega) h1
      have objRead : ∀ e i, (S j).e = some e → i ∈ touch (S j).H.length e → curH ops S D i = hp (S j).H i := by
        intro e i he hi
        rw [← cur_Hh hS j (by omega) i]
        refine cur_read (by omega) (fun k hk h0 => ?_) (fun k h1 h2 h0 => ?_)
        · exact objNo e k i he (by omega) (by rw [h0]; simp [hk]) (by omega) hi
        · by_cases hkj : k = j
          · subst hkj; rw [hDj] at h0; cases h0
          · exact objNo e k i he hkj (by rw [h0]; simp; omega) h2 hi
      have hreadEnv : ∀ t x, t ∈ reads ops o → lk (S j).ρ t = some x → ∃ v, a.tmps[t]? = some v ∧ x.rep G φ v := by
        intro t x ht hx
        exact henv t x (by rw [slotRead t ht]; exact hx)
      have hwant := hst.gd G φ a hreadEnv
      have hlisted : (fun k => (listed.setIfInBounds j true).getD k true) = also D j := by
        funext k
        unfold also
        rw [← hDk]
        simp only [Array.getD_eq_getD_getElem?, Array.getElem?_setIfInBounds]
        by_cases hkj : j = k
        · subst hkj; simp [hsz, hjlt]
        · rw [if_neg hkj, if_neg (Ne.symm hkj)]
      -- the next state of slots
      have nextEnv : ∀ (G' : Imm) (φ' : Loc) (v : Value), G.le G' → φ.le φ' → (S j).x.rep G' φ' v → EnvF G' φ' (curR ops S (also D j)) (a.put o.dst v) := by
        intro G' φ' v hle hple hx t y hy
        by_cases hd : o.dst = some t
        · have hw : wrR ops S j t = some (some (S j).x) := by simp [wrR, ho', hd]
          have h1 : curR ops S (also D j) t = some (S j).x := cur_same hw hjlt fun k h1 h2 h0 => slotNo k t (by omega) (by rw [h0]; simp; omega) h2 (.inr hd)
          rw [h1] at hy
          injection hy with hy; subst hy
          have hdn : t < n := by
            have := hst.dst
            unfold dstB at this
            rw [hd] at this
            exact Nat.le_of_ble_eq_true this
          exact ⟨v, by rw [hd]; simp [Act.put, hn, hdn], hx⟩
        · have hw : wrR ops S j t = none := by simp [wrR, ho', hd]
          have h1 : curR ops S (also D j) t = curR ops S D t := cur_other hw
          rw [h1] at hy
          obtain ⟨u, u1, u2⟩ := henv t y hy
          refine ⟨u, ?_, y.rep_mono hle hple u u2⟩
          cases hdd : o.dst with
          | none => exact u1
          | some d =>
            have hne : d ≠ t := fun e => hd (by rw [hdd, e])
            simp [Act.put, Array.getElem?_setIfInBounds_ne hne, u1]
      have hcnt' : cnt (fun k => (listed.setIfInBounds j true).getD k true) ops.length = fuel := by
        rw [hlisted]
        have := cnt_also hDj ops.length hjlt
        omega
      have hcl' : ∀ k o, ops[k]? = some o → (listed.setIfInBounds j true).getD k true = true → ∀ i ∈ edges o, (listed.setIfInBounds j true).getD i true = true := by
        intro k ok hk h1 i hi
        have e1 : (listed.setIfInBounds j true).getD k true = also D j k := by rw [← hlisted]
        have e2 : (listed.setIfInBounds j true).getD i true = also D j i := by rw [← hlisted]
        rw [e1] at h1
        rw [e2]
        unfold also at h1 ⊢
        by_cases hij : i = j
        · rw [if_pos hij]
        · rw [if_neg hij]
          by_cases hkj : k = j
          · subst hkj
            rw [ho'] at hk; injection hk with hk; subst hk
            exact hedge i hi
          · rw [if_neg hkj] at h1
            exact hclD k ok hk h1 i hi
      show wpOpIn (Fr r) 0 P ops.toArray Q j _ a w
      unfold wpOpIn
      rw [ho]
      dsimp only
      cases he : (S j).e with
      | some e =>
        rw [he] at hwant
        have hwant : Region.wanted o (yielded ops.toArray a.tmps) = true := hwant
        rw [if_pos hwant]
        refine op_in (hD0 j o ho') ?_
        have htri := hst.tri e he
        have hnewIn : ∀ i, (S j).H.length ≤ i → i < (S j).H.length + e.nw.length → i ∈ touch (S j).H.length e := fun i h1 h2 => by
          refine List.mem_append_right _ (List.mem_append_right _ (List.mem_range'.2 ⟨i - (S j).H.length, by omega, by omega⟩))
        refine htri.go a G w φ (curH ops S D) _ Q hs (fun y Y hy hY => ?_) (fun i hi => ?_) (fun i h1 h2 => ?_) fun v G' w' φ' q1 q2 q3 => ?_
        · cases y with
          | tmp t =>
            obtain ⟨u, u1, u2⟩ := hreadEnv t Y (by
              unfold reads
              refine List.mem_append_left _ (List.mem_filterMap.2 ⟨.tmp t, by simpa using hy, rfl⟩)) hY
            simpa [Act.eval, Array.getD_eq_getD_getElem?, u1] using u2
          | const c => exact ofConst_rep hY G φ
          | global g => cases hY
          | func f => injection hY with hY; subst hY; exact ⟨[], [], rfl, rfl, rfl⟩
        · refine objRead e i he ?_
          rcases hi with hi | ⟨p, hp, rfl⟩
          · exact List.mem_append_left _ hi
          · exact List.mem_append_right _ (List.mem_append_left _ (List.mem_map.2 ⟨p, hp, rfl⟩))
        · rw [objRead e i he (hnewIn i h1 h2)]
          exact List.getElem?_eq_none h1
        · have hupd : upd (curH ops S D) (S j).H.length e = curH ops S (also D j) := by
            funext i
            rw [effAt_upd]
            cases hw : effAt (S j).H.length (some e) i with
            | none =>
              have hw' : wrH S j i = none := by simp only [wrH, he, hw]
              exact (cur_other hw').symm
            | some ob =>
              have hw' : wrH S j i = some ob := by simp only [wrH, he, hw]
              refine (cur_same hw' hjlt fun k h1 h2 h0 => objNo e k i he (by omega) (by rw [h0]; simp; omega) h2 ?_).symm
              exact List.mem_append_right _ (effAt_wrote (by rw [hw]; simp))
          rw [hupd] at q1 q2
          have hx : (S j).x = e.x := by simp [Stp.x, he]
          refine ih _ _ G' w' φ' (by simp [hsz]) hcnt' hcl' (by rw [hlisted]; exact q1) (by rw [hlisted]; exact nextEnv G' φ' v q2.le q2.ple (by rw [hx]; exact q3)) (by rw [put_defers]; exact hdef) (by rw [put_size]; exact hn) (by rw [hlisted]; exact hgo.trans q2)
      | none =>
        rw [he] at hwant
        have hwant : Region.wanted o (yielded ops.toArray a.tmps) = false := hwant
        rw [if_neg (by rw [hwant]; simp)]
        have hH : curH ops S (also D j) = curH ops S D := by
          funext i
          exact cur_other (by simp [wrH, he, effAt])
        have hx : (S j).x = .tup [] := by simp [Stp.x, he]
        exact ⟨fun _ _ => trivial, ih _ _ G w φ (by simp [hsz]) hcnt' hcl' (by rw [hlisted, hH]; exact hs) (by rw [hlisted]; exact nextEnv G φ undef (Imm.le.refl _) (Loc.le.refl _) (by rw [hx]; exact ⟨[], rfl, rfl⟩)) (by rw [put_defers]; exact hdef) (by rw [put_size]; exact hn) (by rw [hlisted, hH]; exact hgo)⟩
end
end Go.Proofs.Ytlafnhpmhflnaaa.Q
