/- Sums of variables: the sum that an expression is. No condition. -/
import Derived.Test.YtlafnhpmhflnaaaQzt
import Derived.Test.YtlafnhpmhflnaaaQzj
import Derived.Test.YtlafnhpmhflnaaaQze
import Derived.Test.YtlafnhpmhflnaaaQz
set_option linter.unusedVariables false
set_option linter.unusedSectionVars false
set_option linter.unnecessarySimpa false
set_option linter.unusedSimpArgs false
set_option maxRecDepth 100000
set_option maxHeartbeats 4000000
namespace Go.Proofs.Ytlafnhpmhflnaaa.Q
open Go.RowKit
variable [Amb]
theorem PIdx.ex' {l : List Ex} {k : Nat} {z : Int} {K : List D → Prop} (hz : z = k) (h : k < l.length) (c : K (Ex.row l[k])) : PIdx (l.map Ex.e) z K := by subst hz; exact PIdx.ex h c
/-- A sum out of the parts' sums. -/
def sumB (op : Int) (a : Ln) (b : Ln × Bool) : Ln × Bool :=
  if op = 8 then if b.2 = true then addL a b.1 else noLn else
  if op = 9 then if b.2 = true then if (scaleS b.1 (-1)).2 = true then addL a (scaleS b.1 (-1)).1 else noLn else noLn else noLn
def sumA (op n : Int) (a : Ln × Bool) (r : Option (Ln × Bool)) : Ln × Bool :=
  if a.2 = true then if op = 6 then scaleS a.1 (-1) else if op = 7 then scaleS a.1 n else match r with
    | none => noLn
    | some b => sumB op a.1 b
  else noLn
def sumK (op n i : Int) (l : List (Ln × Bool)) : Ln × Bool :=
  if op = 1 then (⟨n, []⟩, true) else if op = 4 then (⟨0, [⟨i, 1⟩]⟩, true) else match l[0]? with
    | none => noLn
    | some a => sumA op n a l[1]?
mutual
def Ex.sum (p : Pg) : Ex → Ln × Bool
  | ⟨op, mon, name, n, kids, pl⟩ => sumK op n (slotS p mon name).1 (Ex.sums p kids)
def Ex.sums (p : Pg) : List Ex → List (Ln × Bool)
  | [] => []
  | x :: r => x.sum p :: Ex.sums p r
end
theorem Ex.sums_map (p : Pg) : ∀ l : List Ex, Ex.sums p l = l.map (Ex.sum p)
  | [] => by simp [Ex.sums]
  | x :: r => by rw [Ex.sums, Ex.sums_map p r]; rfl
theorem Ex.sum_eq (p : Pg) (x : Ex) : x.sum p = sumK x.op x.n (slotS p x.mon x.name).1 (x.kids.map (Ex.sum p)) := by cases x; rw [Ex.sum, Ex.sums_map]
theorem sumK_num {op n i : Int} {l : List (Ln × Bool)} (h : op = 1) : sumK op n i l = (⟨n, []⟩, true) := by unfold sumK; rw [if_pos h]
theorem sumK_var {op n i : Int} {l : List (Ln × Bool)} (h : ¬ op = 1) (h' : op = 4) : sumK op n i l = (⟨0, [⟨i, 1⟩]⟩, true) := by unfold sumK; rw [if_neg h, if_pos h']
def Ex.nums (x : Ex) : Prop := ∀ y ∈ x.pre, R64 y.n
theorem Ex.nums_kid {x y : Ex} (h : x.nums) (k : y ∈ x.kids) : y.nums := fun z hz => h z (Ex.pre_sub k hz)
theorem slotS_r (p : Pg) (mon name : Str) (hp : p.fits) : R64 (slotS p mon name).1 := by
  by_cases h : (slotS p mon name).2 = true
  · have := slotS_lt h; have := hp.2; unfold R64; omega
  · have : (slotS p mon name).1 = 0 := by
      unfold slotS at h ⊢
      by_cases h1 : (monS p mon).2 = true
      · rw [if_pos h1] at h ⊢
        cases hm : p.mons[(monS p mon).1.toNat]? with
        | none => rfl
        | some m =>
          rw [hm] at h
          dsimp only at h ⊢
          by_cases h2 : firstF (fun t : Vr => t.name == name) 0 m.vars < 0
          · rw [if_pos h2]
          · rw [if_neg h2] at h; exact absurd rfl h
      · rw [if_neg h1]
    rw [this]; unfold R64; omega
theorem con_ok {t : Tm} {r : List Tm} (ht : t.ok) (hr : ∀ u ∈ r, u.ok) : ∀ u ∈ con t r, u.ok := fun u hu => by
  unfold con at hu
  split at hu
  · exact hr u hu
  · rcases List.mem_cons.1 hu with e | h
    · subst e; exact ht
    · exact hr u h
theorem addT_ok : ∀ (n : Nat) (x y r : List Tm), x.length + y.length < n → (∀ t ∈ x, t.ok) → (∀ t ∈ y, t.ok) → addT x y = some r → ∀ t ∈ r, t.ok
  | 0, x, y, r, hn, _, _, _ => by omega
  | _ + 1, [], [], r, _, _, _, h => by rw [addT] at h; injection h with h; subst h; simp
  | n + 1, [], u :: y, r, hn, hx, hy, h => by
    rw [addT_ny, Option.map_eq_some_iff] at h
    obtain ⟨q, h1, rfl⟩ := h
    exact con_ok (hy u (by simp)) (addT_ok n [] y q (by simp at hn ⊢; omega) hx (fun t ht => hy t (by simp [ht])) h1)
  | n + 1, t :: x, [], r, hn, hx, hy, h => by
    rw [addT_xn, Option.map_eq_some_iff] at h
    obtain ⟨q, h1, rfl⟩ := h
    exact con_ok (hx t (by simp)) (addT_ok n x [] q (by simp at hn ⊢; omega) (fun t ht => hx t (by simp [ht])) hy h1)
  | n + 1, t :: x, u :: y, r, hn, hx, hy, h => by
    have hx' : ∀ v ∈ x, v.ok := fun v hv => hx v (by simp [hv])
    have hy' : ∀ v ∈ y, v.ok := fun v hv => hy v (by simp [hv])
    by_cases c1 : t.var < u.var
    · rw [addT_lt x y c1, Option.map_eq_some_iff] at h
      obtain ⟨q, h1, rfl⟩ := h
      exact con_ok (hx t (by simp)) (addT_ok n x (u :: y) q (by simp at hn ⊢; omega) hx' hy h1)
    by_cases c2 : u.var < t.var
    · rw [addT_gt x y c2, Option.map_eq_some_iff] at h
      obtain ⟨q, h1, rfl⟩ := h
      exact con_ok (hy u (by simp)) (addT_ok n (t :: x) y q (by simp at hn ⊢; omega) hx hy' h1)
    by_cases c3 : (addS t.c u.c).2 = true
    · rw [addT_eq x y c1 c2 c3, Option.map_eq_some_iff] at h
      obtain ⟨q, h1, rfl⟩ := h
      exact con_ok ⟨(hx t (by simp)).1, addS_r _ _⟩ (addT_ok n x y q (by simp at hn ⊢; omega) hx' hy' h1)
    · rw [addT_no x y c1 c2 c3] at h; cases h
theorem addL_ok {a b : Ln} (ha : a.ok) (hb : b.ok) : (addL a b).1.ok := by
  unfold addL
  split
  · split
    · rename_i l hl
      split
      · exact ⟨addS_r _ _, addT_ok _ _ _ _ (Nat.lt_succ_self _) ha.2 hb.2 hl⟩
      · exact noLn_ok
    · exact noLn_ok
  · exact noLn_ok
theorem map_uncons {α β : Type} (f : α → β) : ∀ (l : List α) (h : 0 < l.length), l.map f = f l[0] :: (l.map f).tail
  | [], h => by simp at h
  | a :: l, h => rfl
theorem map_uncons2 {α β : Type} (f : α → β) : ∀ (l : List α) (h : 1 < l.length), ∃ r, (l.map f).tail = f l[1] :: r
  | [], h => by simp at h
  | [a], h => by simp at h
  | a :: b :: l, h => ⟨_, rfl⟩
theorem sum_ok (p : Pg) (hp : p.fits) (N : Nat) : ∀ (x : Ex), x.pre.length ≤ N → x.nums → (x.sum p).1.ok := by
  induction N with
  | zero => intro x h; have := x.pre_pos; omega
  | succ N ih =>
    intro x hN hx
    have hm : ∀ q ∈ x.kids.map (Ex.sum p), q.1.ok := fun q hq => by
      obtain ⟨y, hy, rfl⟩ := List.mem_map.1 hq
      exact ih y (by have := Ex.pre_kid hy; omega) (Ex.nums_kid hx hy)
    have hxn := hx x (by rw [x.pre_eq]; exact List.mem_cons_self)
    have hs := slotS_r p x.mon x.name hp
    rw [x.sum_eq]
    generalize x.kids.map (Ex.sum p) = l at hm
    have no := noLn_ok
    unfold sumK
    split
    · exact ⟨hxn, fun t ht => by simp at ht⟩
    split
    · exact ⟨(by unfold R64; decide : R64 (0 : Int)), fun t ht => by simp at ht; subst ht; exact ⟨hs, (by unfold R64; decide : R64 (1 : Int))⟩⟩
    split
    · exact no
    · rename_i a hq
      have ha := hm a (List.mem_of_getElem? hq)
      unfold sumA
      split
      · split
        · exact scaleS_ok ha
        split
        · exact scaleS_ok ha
        split
        · exact no
        · rename_i b hq2
          have hb := hm b (List.mem_of_getElem? hq2)
          unfold sumB
          split
          · split
            · exact addL_ok ha hb
            · exact no
          split
          · split
            · split
              · exact addL_ok ha (scaleS_ok hb)
              · exact no
            · exact no
          · exact no
      · exact no
theorem sum_c (p : Pg) (hp : p.fits) (N : Nat) : ∀ (x : Ex), x.pre.length ≤ N → x.pre.length < 1073741824 → x.nums → (∀ y ∈ x.pre, isPartS y = true) →
    PFun Try.prog 35 [p.v, x.v] [] (lb (x.sum p)) [] := by
  induction N with
  | zero => intro x h; have := x.pre_pos; omega
  | succ N ih =>
    intro x hN hB hx hpart
    have hkl := x.kids_len
    have hxp := hpart x (by rw [x.pre_eq]; exact List.mem_cons_self)
    have hxn := hx x (by rw [x.pre_eq]; exact List.mem_cons_self)
    have hkid : ∀ (k : Nat) (h : k < x.kids.length), PFun Try.prog 35 [p.v, x.kids[k].v] [] (lb (x.kids[k].sum p)) [] ∧ (x.kids[k].sum p).1.ok := fun k h => by
      have hm := List.getElem_mem h
      have hlk := Ex.pre_kid hm
      exact ⟨ih x.kids[k] (by omega) (by omega) (Ex.nums_kid hx hm) (fun y hy => hpart y (Ex.pre_sub hm hy)), sum_ok p hp _ _ (Nat.le_refl _) (Ex.nums_kid hx hm)⟩
    refine fn_sem pok 100 0 Try.func35 (by kernel_rfl) rfl rfl rfl rfl ?_
    refine SWp.go pok (by kernel_rfl) ?_
    refine brP_split (fun h => ?_) (fun h => ?_)
    · have h : x.op = 1 := by simpa using h
      exact fin1 (by rw [x.sum_eq, sumK_num h]; rfl)
    have h1 : ¬ x.op = 1 := by simpa using h
    refine brP_split (fun h => ?_) (fun h => ?_)
    · have h : x.op = 4 := by simpa using h
      refine PFun.call (namesSlot_c p x.mon x.name hp.1 hp.2) ?_
      exact fin1 (by rw [x.sum_eq, sumK_var h1 h]; rfl)
    have h4 : ¬ x.op = 4 := by simpa using h
    refine brP_split (fun h => ?_) (fun h => ?_)
    · have hk : x.kids = [] := by simpa using h
      exact fin1 (by rw [x.sum_eq, hk]; unfold sumK; rw [if_neg h1, if_neg h4]; rfl)
    have hk0 : 0 < x.kids.length := by
      have : x.kids ≠ [] := by simpa using h
      exact List.length_pos_iff.2 this
    have e0 : x.sum p = sumA x.op x.n (x.kids[0].sum p) (x.kids.map (Ex.sum p))[1]? := by
      rw [x.sum_eq]
      unfold sumK
      rw [if_neg h1, if_neg h4]
      simp [hk0]
    have a0 := (hkid 0 hk0).2
    refine PIdx.ex' rfl hk0 ?_
    refine ⟨_, _, (hkid 0 hk0).1, ?_⟩
    refine brP_split (fun h => ?_) (fun h => ?_)
    · have h : ¬ (x.kids[0].sum p).2 = true := by simpa using h
      exact fin1 (by rw [e0]; unfold sumA; rw [if_neg h]; rfl)
    have ha : (x.kids[0].sum p).2 = true := by simpa using h
    refine brP_split (fun h => ?_) (fun h => ?_)
    · have h : x.op = 6 := by simpa using h
      refine PFun.call (linScale_c _ (-1) a0 (by unfold R64; decide)) ?_
      exact fin1 (by rw [e0]; unfold sumA; rw [if_pos ha, if_pos h]; rfl)
    have h6 : ¬ x.op = 6 := by simpa using h
    refine brP_split (fun h => ?_) (fun h => ?_)
    · have h : x.op = 7 := by simpa using h
      refine PFun.call (linScale_c _ x.n a0 hxn) ?_
      exact fin1 (by rw [e0]; unfold sumA; rw [if_pos ha, if_neg h6, if_pos h]; rfl)
    have h7 : ¬ x.op = 7 := by simpa using h
    have hlen : ((x.kids.length : Int) == partsS x.op) = true := by
      unfold isPartS at hxp; simp only [Bool.and_eq_true] at hxp; exact hxp.1.1
    refine brP_split (fun h => ?_) (fun h => ?_)
    · have h : x.op = 8 := by simpa using h
      have hk1 : 1 < x.kids.length := by rw [h] at hlen; simp [partsS, partsL] at hlen; omega
      have e1 : (x.kids.map (Ex.sum p))[1]? = some (x.kids[1].sum p) := by simp [hk1]
      have b0 := (hkid 1 hk1).2
      have e2 : x.sum p = if (x.kids[1].sum p).2 = true then addL (x.kids[0].sum p).1 (x.kids[1].sum p).1 else noLn := by
        rw [e0, e1]; unfold sumA; rw [if_pos ha, if_neg h6, if_neg h7]
        show sumB _ _ _ = _
        unfold sumB; rw [if_pos h]
      refine PIdx.ex' rfl hk1 ?_
      refine ⟨_, _, (hkid 1 hk1).1, ?_⟩
      refine brP_split (fun h => ?_) (fun h => ?_)
      · have h : ¬ (x.kids[1].sum p).2 = true := by simpa using h
        exact fin1 (by rw [e2, if_neg h]; rfl)
      · have h : (x.kids[1].sum p).2 = true := by simpa using h
        refine PFun.call (linAdd_c _ _ a0 b0) ?_
        exact fin1 (by rw [e2, if_pos h]; rfl)
    have h8 : ¬ x.op = 8 := by simpa using h
    refine brP_split (fun h => ?_) (fun h => ?_)
    · have h : x.op = 9 := by simpa using h
      have hk1 : 1 < x.kids.length := by rw [h] at hlen; simp [partsS, partsL] at hlen; omega
      have e1 : (x.kids.map (Ex.sum p))[1]? = some (x.kids[1].sum p) := by simp [hk1]
      have b0 := (hkid 1 hk1).2
      have e2 : x.sum p = if (x.kids[1].sum p).2 = true then if (scaleS (x.kids[1].sum p).1 (-1)).2 = true then addL (x.kids[0].sum p).1 (scaleS (x.kids[1].sum p).1 (-1)).1 else noLn else noLn := by
        rw [e0, e1]; unfold sumA; rw [if_pos ha, if_neg h6, if_neg h7]
        show sumB _ _ _ = _
        unfold sumB; rw [if_neg h8, if_pos h]
      refine PIdx.ex' rfl hk1 ?_
      refine ⟨_, _, (hkid 1 hk1).1, ?_⟩
      refine brP_split (fun h => ?_) (fun h => ?_)
      · have h : (x.kids[1].sum p).2 = true := by simpa using h
        rw [if_pos h] at e2
        refine PFun.call (linScale_c _ (-1) b0 (by unfold R64; decide)) ?_
        refine brP_split (fun h => ?_) (fun h => ?_)
        · have h : ¬ (scaleS (x.kids[1].sum p).1 (-1)).2 = true := by simpa using h
          exact fin1 (by rw [e2, if_neg h]; rfl)
        · have h : (scaleS (x.kids[1].sum p).1 (-1)).2 = true := by simpa using h
          refine PFun.call (linAdd_c _ _ a0 (scaleS_ok b0)) ?_
          exact fin1 (by rw [e2, if_pos h]; rfl)
      · have h : ¬ (x.kids[1].sum p).2 = true := by simpa using h
        rw [if_neg h] at e2
        refine brP_true (by simp_all) ?_
        exact fin1 (by rw [e2]; rfl)
    have h9 : ¬ x.op = 9 := by simpa using h
    exact fin1 (by
      rw [e0]; unfold sumA; rw [if_pos ha, if_neg h6, if_neg h7]
      cases (x.kids.map (Ex.sum p))[1]? with
      | none => rfl
      | some b => show lb noLn = lb (sumB _ _ _); unfold sumB; rw [if_neg h8, if_neg h9])
def linOfS (p : Pg) (x : Ex) : Ln × Bool := if (typeS p x).2.1 = 0 ∧ (typeS p x).1 = 2 then x.sum p else noLn
theorem typeS_parts {p : Pg} {x : Ex} (h : (typeS p x).2.1 = 0) : ∀ y ∈ x.pre, isPartS y = true := fun y hy => by
  have hc : checkS x = 0 := by
    unfold typeS at h
    by_cases hc : checkS x = 0
    · exact hc
    · rw [if_neg hc] at h; exact absurd h hc
  unfold checkS at hc
  cases ha : x.pre.all isPartS with
  | false => rw [ha] at hc; cases hc
  | true => exact List.all_eq_true.1 ha y hy
theorem linOf_c (p : Pg) (x : Ex) (hp : p.fits) (hx : x.fits) (hn : x.nums) : PFun Try.prog 12 [p.v, x.v] [] (lb (linOfS p x)) [] := by
  refine fn_sem pok 28 0 Try.func12 (by kernel_rfl) rfl rfl rfl rfl ?_
  refine SWp.go pok (by kernel_rfl) ?_
  refine PFun.call (type_c p x hp hx) ?_
  refine brP_split (fun h => ?_) (fun h => ?_)
  · have h : ¬ (typeS p x).2.1 = 0 := by simpa using h
    exact fin1 (by unfold linOfS; rw [if_neg (fun h' => h h'.1)]; rfl)
  have h0 : (typeS p x).2.1 = 0 := by simpa using h
  refine brP_split (fun h => ?_) (fun h => ?_)
  · have h : ¬ (typeS p x).1 = 2 := by simpa using h
    exact fin1 (by unfold linOfS; rw [if_neg (fun h' => h h'.2)]; rfl)
  have h2 : (typeS p x).1 = 2 := by simpa using h
  refine PFun.call (sum_c p hp _ x (Nat.le_refl _) hx.1 hn (typeS_parts h0)) ?_
  exact fin1 (by unfold linOfS; rw [if_pos ⟨h0, h2⟩]; rfl)
end Go.Proofs.Ytlafnhpmhflnaaa.Q
