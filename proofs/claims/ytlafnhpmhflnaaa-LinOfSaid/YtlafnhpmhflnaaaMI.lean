/- Expressions as sums, both ways: names, shapes, types, sums of the reference; what is small; how programs are read. No condition. -/
import Derived.Test.YtlafnhpmhflnaaaME
import Derived.Test.YtlafnhpmhflnaaaMD
import Derived.Test.YtlafnhpmhflnaaaMF
import Derived.Test.YtlafnhpmhflnaaaMH
set_option linter.unusedVariables false
set_option linter.unusedSectionVars false
set_option linter.unnecessarySimpa false
set_option linter.unusedSimpArgs false
set_option maxRecDepth 100000
set_option maxHeartbeats 4000000
namespace Go.Proofs.Ytlafnhpmhflnaaa.Q
open Go.RowKit
variable [Amb]
theorem class_letter (c : Int) : (classS c == 3) = ((decide (97 ≤ c) && decide (c ≤ 122)) || (decide (65 ≤ c) && decide (c ≤ 90))) := by
  have e : classS c = 3 ↔ (97 ≤ c ∧ c ≤ 122) ∨ (65 ≤ c ∧ c ≤ 90) := by
    unfold classS
    repeat' split
    all_goals omega
  rw [Bool.eq_iff_iff]
  simpa using e
theorem class_digit (c : Int) : (classS c == 4) = (decide (48 ≤ c) && decide (c ≤ 57)) := by
  have e : classS c = 4 ↔ (48 ≤ c ∧ c ≤ 57) := by
    unfold classS
    repeat' split
    all_goals omega
  rw [Bool.eq_iff_iff]
  simpa using e
theorem refLetter_c (c : Int) : PFun Try.prog 91 [.d (.int .u8 c)] [] (.d (.bool (classS c == 3))) [] := by
  rw [class_letter]
  refine fn_sem pok 17 0 Try.func91 (by kernel_rfl) rfl rfl rfl rfl ?_
  refine SWp.go pok (by kernel_rfl) ?_
  repeat' (refine brP_split (fun h => ?_) (fun h => ?_))
  all_goals
    refine fin1 (dbool ?_)
    simp only [ge_iff_le, decide_eq_true_eq, decide_eq_false_iff_not] at *
    simp [*]
    try omega
theorem refDigit_c (c : Int) : PFun Try.prog 92 [.d (.int .u8 c)] [] (.d (.bool (classS c == 4))) [] := by
  rw [class_digit]
  refine fn_sem pok 9 0 Try.func92 (by kernel_rfl) rfl rfl rfl rfl ?_
  refine SWp.go pok (by kernel_rfl) ?_
  repeat' (refine brP_split (fun h => ?_) (fun h => ?_))
  all_goals
    refine fin1 (dbool ?_)
    simp only [ge_iff_le, decide_eq_true_eq, decide_eq_false_iff_not] at *
    simp [*]
def scell (s : Str) : List D := [.str s]
theorem refWords_c : PFun Try.prog 99 [] [] (.d (.sl (words.map scell))) [] := by
  refine fn_sem pok 2 0 Try.func99 (by kernel_rfl) rfl rfl rfl rfl ?_
  refine SWp.go pok (by kernel_rfl) ?_
  exact fin1 rfl
theorem refWord_c (s : Str) : PFun Try.prog 93 [sv' s] [] (.d (.bool (isWord s))) [] := by
  refine fn_sem pok 18 0 Try.func93 (by kernel_rfl) rfl rfl rfl rfl ?_
  refine SWp.go pok (by kernel_rfl) ?_
  refine PFun.call refWords_c ?_
  refine SWp.loop (fun k : Nat => k ≤ words.length ∧ (words.drop k).any (fun w => s == w) = isWord s) (fun k => ([(0, sv' s), (3, .d (.sl (words.map scell))), (4, iv k)], [])) (fun k => words.length - k) 0 ⟨Nat.zero_le _, rfl⟩ (Le.same ⟨rfl, rfl, rfl, trivial⟩) (fun k hk => ?_)
  obtain ⟨hj, hk⟩ := hk
  have hwl : words.length = 20 := rfl
  refine SWp.go pok (by kernel_rfl) ?_
  refine brP_split (fun h => ?_) (fun h => ?_)
  · have hlt : k < words.length := by simpa using h
    have hat : (words.drop k).any (fun w => s == w) = ((s == words[k]) || (words.drop (k + 1)).any (fun w => s == w)) := by rw [List.drop_eq_getElem_cons hlt]; rfl
    refine PIdx.map (get_at hlt) ?_
    refine brP_split (fun h3 => ?_) (fun h3 => ?_)
    · have h3 : (s == words[k]) = true := by rw [beq_iff_eq] at h3 ⊢; exact h3.symm
      exact fin1 (dbool (by rw [← hk, hat, h3]; rfl))
    · have h3 : (s == words[k]) = false := by rw [beq_eq_false_iff_ne] at h3 ⊢; exact fun e => h3 e.symm
      exact ⟨k + 1, ⟨hlt, by rw [← hk, hat, h3]; rfl⟩, by omega, Le.same ⟨rfl, rfl, sint (wrap_nat k (by omega)), trivial⟩⟩
  · have hk' : words.drop k = [] := List.drop_of_length_le (by simp at h; omega)
    exact fin1 (dbool (by rw [← hk, hk']; rfl))
theorem refName_c (s : Str) (hs : s.length < 1073741824) : PFun Try.prog 76 [sv' s] [] (.d (.bool (isName s))) [] := by
  refine fn_sem pok 45 0 Try.func76 (by kernel_rfl) rfl rfl rfl rfl ?_
  refine SWp.go pok (by kernel_rfl) ?_
  refine brP_split (fun h => ?_) (fun h => ?_)
  · have : s = [] := by simp at h; exact List.eq_nil_of_length_eq_zero (by omega)
    exact fin1 (dbool (by rw [this]; rfl))
  have hne : s ≠ [] := fun e => by rw [e] at h; simp at h
  refine brP_split (fun h => ?_) (fun h => ?_)
  · have : ¬ s.length ≤ 32 := by simp at h; omega
    exact fin1 (dbool (by simp [isName, this]))
  have h32 : s.length ≤ 32 := by simp at h; omega
  have hh : s[0]? = some (s.headD 0) := by cases s with | nil => exact absurd rfl hne | cons b r => rfl
  refine PIdx.at hh ?_
  refine PFun.call (refLetter_c _) ?_
  refine brP_split (fun h2 => ?_) (fun h2 => ?_)
  · have h2 : (classS ((s.headD 0).toNat : Int) == 3) = false := by simpa using h2
    exact fin1 (dbool (by simp only [isName, h2]; simp))
  have h2 : (classS ((s.headD 0).toNat : Int) == 3) = true := by simpa using h2
  have hnm : isName s = (!isWord s && (spanF inNameS 0 s == s.length)) := by
    simp only [isName, h2, decide_eq_true h32, beq_eq_false_iff_ne.2 hne]; rfl
  refine SWp.loop (fun k : Nat => k ≤ s.length ∧ spanF inNameS k (s.drop k) = spanF inNameS 0 s) (fun k => ([(0, sv' s), (3, iv k)], [])) (fun k => s.length - k) 0 ⟨Nat.zero_le _, rfl⟩ (Le.same ⟨rfl, rfl, trivial⟩) (fun k hk => ?_)
  obtain ⟨hj, hk⟩ := hk
  refine SWp.go pok (by kernel_rfl) ?_
  refine brP_split (fun h => ?_) (fun h => ?_)
  · have hlt : k < s.length := by simpa using h
    have hat := spanF_at inNameS hlt
    refine PIdx.at (get_at hlt) ?_
    refine PFun.call (refLetter_c _) ?_
    refine brP_split (fun h3 => ?_) (fun h3 => ?_)
    · have h3 : (classS (s[k].toNat : Int) == 3) = false := by simpa using h3
      refine PIdx.at (get_at hlt) ?_
      refine PFun.call (refDigit_c _) ?_
      refine brP_split (fun h4 => ?_) (fun h4 => ?_)
      · have h4 : (classS (s[k].toNat : Int) == 4) = false := by simpa using h4
        refine PIdx.at (get_at hlt) ?_
        refine brP_split (fun h5 => ?_) (fun h5 => ?_)
        · have h5 : ((s[k].toNat : Int) == 95) = false := by simpa using h5
          have hin : inNameS s[k].toNat = false := by unfold inNameS; rw [h3, h4, h5]; rfl
          have hsp : spanF inNameS 0 s = k := by rw [← hk, hat, if_neg (by rw [hin]; simp)]
          have hno : isName s = false := by rw [hnm, hsp, beq_eq_false_iff_ne.2 (by omega : k ≠ s.length)]; simp
          rw [hno]
          exact fin1 rfl
        · have h5 : ((s[k].toNat : Int) == 95) = true := by simpa using h5
          have hin : inNameS s[k].toNat = true := by unfold inNameS; rw [h5]; simp
          exact ⟨k + 1, ⟨hlt, by rw [← hk, hat, if_pos hin]⟩, by omega, Le.same ⟨rfl, sint (wrap_nat k (by omega)), trivial⟩⟩
      · have h4 : (classS (s[k].toNat : Int) == 4) = true := by simpa using h4
        have hin : inNameS s[k].toNat = true := by unfold inNameS; rw [h4]; simp
        exact ⟨k + 1, ⟨hlt, by rw [← hk, hat, if_pos hin]⟩, by omega, Le.same ⟨rfl, sint (wrap_nat k (by omega)), trivial⟩⟩
    · have h3 : (classS (s[k].toNat : Int) == 3) = true := by simpa using h3
      have hin : inNameS s[k].toNat = true := by unfold inNameS; rw [h3]; simp
      exact ⟨k + 1, ⟨hlt, by rw [← hk, hat, if_pos hin]⟩, by omega, Le.same ⟨rfl, sint (wrap_nat k (by omega)), trivial⟩⟩
  · have hk' : s.drop k = [] := List.drop_of_length_le (by simp at h; omega)
    have hl : k = s.length := by simp at h; omega
    have hsp : (spanF inNameS 0 s == s.length) = true := by rw [← hk, hk', ← hl]; simp [spanF]
    rw [hnm, hsp, Bool.and_true]
    refine PFun.call (refWord_c s) ?_
    refine brP_split (fun h3 => ?_) (fun h3 => ?_)
    · exact fin1 (dbool h3.symm)
    · exact fin1 (dbool h3.symm)
end Go.Proofs.Ytlafnhpmhflnaaa.Q

namespace Go.Proofs.Ytlafnhpmhflnaaa.Q
open Go.RowKit
variable [Amb]
theorem partsS_eq (op : Int) : partsS op = if 1 ≤ op ∧ op ≤ 4 then 0 else if 5 ≤ op ∧ op ≤ 7 then 1 else if 8 ≤ op ∧ op ≤ 17 then 2 else -1 := by
  unfold partsS
  by_cases h0 : op < 0
  · rw [if_pos h0, if_neg (by omega), if_neg (by omega), if_neg (by omega)]
  by_cases h1 : 18 ≤ op
  · rw [if_neg h0, if_pos h1, if_neg (by omega), if_neg (by omega), if_neg (by omega)]
  have : op = 0 ∨ op = 1 ∨ op = 2 ∨ op = 3 ∨ op = 4 ∨ op = 5 ∨ op = 6 ∨ op = 7 ∨ op = 8 ∨ op = 9 ∨ op = 10 ∨ op = 11 ∨ op = 12 ∨ op = 13 ∨ op = 14 ∨ op = 15 ∨ op = 16 ∨ op = 17 := by omega
  rcases this with rfl | rfl | rfl | rfl | rfl | rfl | rfl | rfl | rfl | rfl | rfl | rfl | rfl | rfl | rfl | rfl | rfl | rfl <;> rfl
theorem refKids_c (op : Int) : PFun Try.prog 75 [iv op] [] (iv (partsS op)) [] := by
  rw [partsS_eq]
  refine fn_sem pok 24 0 Try.func75 (by kernel_rfl) rfl rfl rfl rfl ?_
  refine SWp.go pok (by kernel_rfl) ?_
  repeat' (refine brP_split (fun h => ?_) (fun h => ?_))
  all_goals
    refine fin1 (dint ?_)
    simp only [ge_iff_le, decide_eq_true_eq, decide_eq_false_iff_not] at *
    repeat' split
    all_goals omega
theorem refIsExpr_c (N : Nat) : ∀ (x : Ex), x.pre.length ≤ N → x.fits → PFun Try.prog 58 [x.v] [] (.d (.bool (x.pre.all isPartS))) [] := by
  induction N with
  | zero => intro x h; have := x.pre_pos; omega
  | succ N ih =>
    intro x hN hx
    have hkl := x.kids_len
    have hxf := hx.2 x (by rw [x.pre_eq]; exact List.mem_cons_self)
    have hpre : x.pre.all isPartS = (isPartS x && (Ex.pres x.kids).all isPartS) := by rw [x.pre_eq]; rfl
    refine fn_sem pok 66 0 Try.func58 (by kernel_rfl) rfl rfl rfl rfl ?_
    cases hp : isPartS x with
    | false =>
      rw [hpre, hp, Bool.false_and]
      unfold isPartS at hp
      refine SWp.go pok (by kernel_rfl) ?_
      refine ⟨_, _, refKids_c x.op, ?_⟩
      repeat' first
        | refine brP_split (fun h => ?_) (fun h => ?_)
        | refine PFun.call (refName_c x.mon hxf.2.1) ?_
        | refine PFun.call (refName_c x.name hxf.2.2) ?_
      all_goals first
        | exact fin1 rfl
        | (exfalso; simp_all; done)
        | (exfalso; simp_all; omega)
    | true =>
      rw [hpre, hp, Bool.true_and]
      have hp' := hp
      unfold isPartS at hp
      refine SWp.then pok (by kernel_rfl) ?_
      refine SWp.cut pok [(1, .ptr 0 0)] [.box x.cells] (by kernel_rfl) ?_ ?_
      · refine ⟨_, _, refKids_c x.op, ?_⟩
        repeat' (refine brP_split (fun h => ?_) (fun h => ?_))
        all_goals first
          | exact .inl ⟨⟨rfl, trivial⟩, rfl⟩
          | (exfalso; simp_all; done)
          | (exfalso; simp_all; omega)
      refine SWp.cut pok [(1, .ptr 0 0)] [.box x.cells] (by kernel_rfl) ?_ ?_
      · repeat' first
          | refine brP_split (fun h => ?_) (fun h => ?_)
          | refine PFun.call (refName_c x.mon hxf.2.1) ?_
          | refine PFun.call (refName_c x.name hxf.2.2) ?_
        all_goals first
          | exact .inl ⟨⟨rfl, trivial⟩, rfl⟩
          | (exfalso; simp_all; done)
          | (exfalso; simp_all; omega)
      refine SWp.go pok (by kernel_rfl) ?_
      refine SWp.loop (fun k : Nat => k ≤ x.kids.length ∧ (Ex.pres (x.kids.take k)).all isPartS = true) (fun k => ([(1, .ptr 0 0), (3, iv k)], [.box x.cells])) (fun k => x.kids.length - k) 0 ⟨Nat.zero_le _, by simp [Ex.pres]⟩ (Le.same ⟨rfl, rfl, trivial⟩) (fun k hk => ?_)
      obtain ⟨hj, hk⟩ := hk
      refine SWp.go pok (by kernel_rfl) ?_
      refine brP_split (fun h => ?_) (fun h => ?_)
      · have hlt : k < x.kids.length := by simpa using h
        have hm := List.getElem_mem hlt
        have hsn := Ex.pres_snoc hlt
        have hlk := Ex.pre_kid hm
        have hkf : x.kids[k].fits := ⟨by have := hx.1; omega, fun y hy => hx.2 y (Ex.pre_sub hm hy)⟩
        refine PIdx.ex hlt ?_
        refine PFun.call (ih x.kids[k] (by omega) hkf) ?_
        refine brP_split (fun h3 => ?_) (fun h3 => ?_)
        · have h3 : x.kids[k].pre.all isPartS = false := by simpa using h3
          have hall : (Ex.pres x.kids).all isPartS = false := by
            have e1 : x.kids = x.kids.take (k + 1) ++ x.kids.drop (k + 1) := (List.take_append_drop _ _).symm
            have e2 : Ex.pres x.kids = Ex.pres (x.kids.take (k + 1)) ++ Ex.pres (x.kids.drop (k + 1)) := by
              rw [Ex.pres_map, Ex.pres_map, Ex.pres_map, ← List.flatMap_append, ← e1]
            rw [e2, hsn, List.all_append, List.all_append, h3]; simp
          exact fin1 (dbool hall.symm)
        · have h3 : x.kids[k].pre.all isPartS = true := by simpa using h3
          exact ⟨k + 1, ⟨hlt, by rw [hsn, List.all_append, hk, h3]; rfl⟩, by omega, Le.same ⟨rfl, sint (wrap_nat k (by omega)), trivial⟩⟩
      · have hk' : x.kids.take k = x.kids := List.take_of_length_le (by simp at h; omega)
        rw [hk'] at hk
        exact fin1 (dbool hk.symm)
end Go.Proofs.Ytlafnhpmhflnaaa.Q

namespace Go.Proofs.Ytlafnhpmhflnaaa.Q
open Go.RowKit
variable [Amb]
theorem firstF_skip {α : Type} (p : α → Bool) {l : List α} : ∀ {k : Nat}, k ≤ l.length → (∀ j (h : j < l.length), j < k → p l[j] = false) → firstF p 0 l = firstF p k (l.drop k)
  | 0, _, _ => rfl
  | k + 1, hk, h => by
    rw [firstF_skip p (k := k) (by omega) (fun j hj hl => h j hj (by omega)), firstF_at p (by omega : k < l.length), if_neg (by rw [h k (by omega) (by omega)]; simp)]
theorem firstF_hit {α : Type} (p : α → Bool) {l : List α} {k : Nat} (hk : k < l.length) (h : ∀ j (h : j < l.length), j < k → p l[j] = false) (hp : p l[k] = true) : firstF p 0 l = k := by
  rw [firstF_skip p (Nat.le_of_lt hk) h, firstF_at p hk, if_pos hp]
theorem firstF_none {α : Type} (p : α → Bool) {l : List α} (h : ∀ j (h : j < l.length), p l[j] = false) : firstF p 0 l = -1 := by
  rw [firstF_skip p (Nat.le_refl _) (fun j hj _ => h j hj), List.drop_length]; rfl
theorem slotS_none {p : Pg} {mon name : Str} (h : ∀ j (h : j < p.mons.length), (p.mons[j].name == mon) = false) : slotS p mon name = (0, false) := by
  have := firstF_none (fun t : Mo => t.name == mon) h
  unfold slotS monS
  rw [this]; rfl
theorem slotS_mon {p : Pg} {mon name : Str} {i : Nat} (hi : i < p.mons.length) (h : ∀ j (h : j < p.mons.length), j < i → (p.mons[j].name == mon) = false) (hm : (p.mons[i].name == mon) = true) :
    slotS p mon name = if firstF (fun t : Vr => t.name == name) 0 p.mons[i].vars < 0 then (0, false) else (firstF (fun t : Vr => t.name == name) 0 p.mons[i].vars + nVars (p.mons.take i), true) := by
  have := firstF_hit (fun t : Mo => t.name == mon) hi h hm
  have hs : monS p mon = ((i : Int), true) := by unfold monS; rw [this, if_pos (by omega)]
  unfold slotS
  rw [hs]
  simp [hi]
theorem refSlot_c (p : Pg) (mon name : Str) (hp : p.fits) : PFun Try.prog 60 [p.v, sv' mon, sv' name] [] (ib (slotS p mon name)) [] := by
  refine fn_sem pok 62 0 Try.func60 (by kernel_rfl) rfl rfl rfl rfl ?_
  refine SWp.go pok (by kernel_rfl) ?_
  have hp1 := hp.1
  have hp2 := hp.2
  refine SWp.loop (fun i : Nat => i ≤ p.mons.length ∧ ∀ j (h : j < p.mons.length), j < i → (p.mons[j].name == mon) = false)
    (fun i => ([(1, sv' mon), (2, sv' name), (3, .ptr 0 0), (8, iv (nVars (p.mons.take i))), (9, iv i)], [.box [.d (.sl (p.mons.map Mo.c)), .d (.sl (p.roles.map Ro.c))]])) (fun i => p.mons.length - i) 0 ⟨Nat.zero_le _, fun j _ h => by omega⟩ (Le.same ⟨rfl, rfl, rfl, rfl, rfl, trivial⟩) (fun i hi => ?_)
  obtain ⟨hi, hno⟩ := hi
  refine SWp.go pok (by kernel_rfl) ?_
  refine brP_split (fun h => ?_) (fun h => ?_)
  · have hlt : i < p.mons.length := by simpa using h
    have hsn := nVars_snoc hlt
    have hle := nVars_le (l := p.mons) (i + 1)
    refine SWp.loop (fun k : Nat => k ≤ p.mons[i].vars.length ∧ ((p.mons[i].name == mon) = true → ∀ j (h : j < p.mons[i].vars.length), j < k → (p.mons[i].vars[j].name == name) = false))
      (fun k => ([(1, sv' mon), (2, sv' name), (3, .ptr 0 0), (8, iv (nVars (p.mons.take i) + k : Nat)), (9, iv i), (10, iv k)], [.box [.d (.sl (p.mons.map Mo.c)), .d (.sl (p.roles.map Ro.c))]])) (fun k => p.mons[i].vars.length - k) 0 ⟨Nat.zero_le _, fun _ j _ h => by omega⟩ (Le.same ⟨rfl, rfl, rfl, rfl, rfl, rfl, trivial⟩) (fun k hk => ?_)
    obtain ⟨hk, hkno⟩ := hk
    refine SWp.go pok (by kernel_rfl) ?_
    refine PIdx.map (get_at hlt) ?_
    refine brP_split (fun h2 => ?_) (fun h2 => ?_)
    · have hlk : k < p.mons[i].vars.length := by simpa using h2
      refine PIdx.map (get_at hlt) ?_
      have next : ((p.mons[i].name == mon) = true → (p.mons[i].vars[k].name == name) = false) → ∃ y, (y ≤ p.mons[i].vars.length ∧ ((p.mons[i].name == mon) = true → ∀ j (h : j < p.mons[i].vars.length), j < y → (p.mons[i].vars[j].name == name) = false)) ∧ y = k + 1 := fun e => ⟨k + 1, ⟨hlk, fun hm j hj hjk => by
        rcases Nat.lt_or_ge j k with h5 | h5
        · exact hkno hm j hj h5
        · have : j = k := by omega
          subst this; exact e hm⟩, rfl⟩
      refine brP_split (fun h3 => ?_) (fun h3 => ?_)
      · refine PIdx.map (get_at hlt) ?_
        refine PIdx.map (get_at hlk) ?_
        refine brP_split (fun h4 => ?_) (fun h4 => ?_)
        · have := firstF_hit (fun t : Vr => t.name == name) hlk (hkno h3) h4
          exact fin1 (by rw [slotS_mon hlt hno h3, this, if_neg (by omega)]; exact tup2 (dint (by omega)) rfl)
        · obtain ⟨y, hy, rfl⟩ := next (fun _ => h4)
          exact ⟨k + 1, hy, by omega, Le.same ⟨rfl, rfl, rfl, sint (by rw [wrap_in (by unfold R64; omega)]; omega), rfl, sint (wrap_nat k (by omega)), trivial⟩⟩
      · obtain ⟨y, hy, rfl⟩ := next (fun e => by rw [h3] at e; cases e)
        exact ⟨k + 1, hy, by omega, Le.same ⟨rfl, rfl, rfl, sint (by rw [wrap_in (by unfold R64; omega)]; omega), rfl, sint (wrap_nat k (by omega)), trivial⟩⟩
    · have hk' : k = p.mons[i].vars.length := by simp at h2; omega
      refine PIdx.map (get_at hlt) ?_
      refine brP_split (fun h3 => ?_) (fun h3 => ?_)
      · have := firstF_none (fun t : Vr => t.name == name) (l := p.mons[i].vars) fun j hj => hkno h3 j hj (by omega)
        exact fin1 (by rw [slotS_mon hlt hno h3, this, if_pos (by omega)]; rfl)
      · exact ⟨i + 1, ⟨hlt, fun j hj hji => by
          rcases Nat.lt_or_ge j i with h5 | h5
          · exact hno j hj h5
          · have : j = i := by omega
            subst this; exact h3⟩, by omega, Le.same ⟨rfl, rfl, rfl, sint (by rw [hsn, hk']), sint (wrap_nat i (by omega)), trivial⟩⟩
  · have hi' : i = p.mons.length := by simp at h; omega
    exact fin1 (by rw [slotS_none fun j hj => hno j hj (by omega)]; rfl)
theorem refSlots_c (p : Pg) (hp : p.fits) : PFun Try.prog 77 [p.v] [] (.d (.sl ((slotsS p.mons).map Vr.c))) [] := by
  have hl := hp.1
  have hn := hp.2
  refine fn_sem pok 21 0 Try.func77 (by kernel_rfl) rfl rfl rfl rfl ?_
  refine SWp.go pok (by kernel_rfl) ?_
  refine SWp.tipSlot 3 6 rfl ?_
  refine SWp.loop (fun q : Nat × List (List D) => q.1 ≤ p.mons.length ∧ q.2 = (slotsS (p.mons.take q.1)).map Vr.c) (fun q => ([(1, .ptr 0 0), (3, .gsl q.2 1), (4, iv q.1)], [.box [.d (.sl (p.mons.map Mo.c)), .d (.sl (p.roles.map Ro.c))], .tip 6 q.2.length])) (fun q => p.mons.length - q.1) (0, []) ⟨Nat.zero_le _, by simp [slotsS]⟩ (Le.same ⟨rfl, rfl, rfl, trivial⟩) (fun q hq => ?_)
  obtain ⟨k, rows⟩ := q
  obtain ⟨hk, hr⟩ := hq
  simp only at hk hr
  subst hr
  refine SWp.go pok (by kernel_rfl) ?_
  refine brP_split (fun h => ?_) (fun h => ?_)
  · have hlt : k < p.mons.length := by simpa using h
    have hs := slotsS_snoc hlt
    have e1 := nVars_le (l := p.mons) (k + 1)
    rw [← slotsS_len, hs] at e1
    refine PIdx.map (get_at hlt) ?_
    refine ⟨⟨rfl, RL_vr _, RL_vr _, by simp at e1 ⊢; omega⟩, ?_⟩
    exact ⟨(k + 1, (slotsS (p.mons.take k)).map Vr.c ++ p.mons[k].vars.map Vr.c), ⟨hlt, by show _ = (slotsS (p.mons.take (k + 1))).map Vr.c; rw [hs, List.map_append]⟩, by show p.mons.length - (k + 1) < p.mons.length - k; omega, .inr ⟨[0, 1], ⟨rfl, rfl⟩, rfl, rfl, rfl, sint (wrap_nat k (by omega)), trivial⟩⟩
  · have hk' : p.mons.take k = p.mons := List.take_of_length_le (by simp at h; omega)
    exact fin1 (by rw [hk'])
end Go.Proofs.Ytlafnhpmhflnaaa.Q

namespace Go.Proofs.Ytlafnhpmhflnaaa.Q
open Go.RowKit
def isS (op : Int) : Int := if op = 1 then 2 else if 6 ≤ op ∧ op ≤ 9 then 2 else 1
def wantsS (op : Int) : Int := if op = 5 then 1 else if op = 16 then 1 else if op = 17 then 1 else if op = 10 then 0 else if op = 11 then 0 else 2
/-- The parts' types, as far as there is no error; the first error. -/
def rtyL : List (Int × Int × Int) → List Int × Option (Int × Int)
  | [] => ([], none)
  | q :: r => if q.2.1 = 0 then (q.1 :: (rtyL r).1, (rtyL r).2) else ([], some q.2)
def rlookF (op w : Int) : List Int → List Ex → Int × Int × Int
  | t :: ts, x :: xs => if t = w then rlookF op w ts xs else (0, 70, x.pl)
  | _, _ => (isS op, 0, 0)
def rwant (op : Int) (ts : List Int) : Int := if wantsS op = 0 then ts.headD 0 else wantsS op
def rtyK (op : Int) (kids : List Ex) (qs : List (Int × Int × Int)) : Int × Int × Int :=
  match (rtyL qs).2 with
  | some e => (0, e.1, e.2)
  | none => rlookF op (rwant op (rtyL qs).1) (rtyL qs).1 kids
mutual
/-- What an expression of the right shape is, an error, and where. -/
def Ex.rty (p : Pg) : Ex → Int × Int × Int
  | ⟨op, mon, name, n, kids, pl⟩ => if op = 4 then if (slotS p mon name).2 = true then ((varS p mon name).1, 0, 0) else (0, 61, pl) else rtyK op kids (Ex.rtys p kids)
def Ex.rtys (p : Pg) : List Ex → List (Int × Int × Int)
  | [] => []
  | x :: r => x.rty p :: Ex.rtys p r
end
theorem Ex.rtys_map (p : Pg) : ∀ l : List Ex, Ex.rtys p l = l.map (Ex.rty p)
  | [] => by simp [Ex.rtys]
  | x :: r => by rw [Ex.rtys, Ex.rtys_map p r]; rfl
theorem Ex.rty_eq (p : Pg) (x : Ex) : x.rty p = if x.op = 4 then if (slotS p x.mon x.name).2 = true then ((varS p x.mon x.name).1, 0, 0) else (0, 61, x.pl) else rtyK x.op x.kids (x.kids.map (Ex.rty p)) := by
  cases x; rw [Ex.rty, Ex.rtys_map]
theorem rtyL_err : ∀ {qs : List (Int × Int × Int)} {k : Nat} (h : k < qs.length), (∀ j (hj : j < qs.length), j < k → qs[j].2.1 = 0) → qs[k].2.1 ≠ 0 → (rtyL qs).2 = some qs[k].2
  | q :: r, 0, h, _, he => by
    have he : ¬ q.2.1 = 0 := by simpa using he
    unfold rtyL; rw [if_neg he]; rfl
  | q :: r, k + 1, h, hok, he => by
    have h0 : q.2.1 = 0 := hok 0 (by simp) (by omega)
    unfold rtyL; rw [if_pos h0]
    have := rtyL_err (qs := r) (k := k) (by simpa using h) (fun j hj hjk => hok (j + 1) (by simpa using hj) (by omega)) (by simpa using he)
    simpa using this
theorem rtyL_all : ∀ {qs : List (Int × Int × Int)}, (∀ j (hj : j < qs.length), qs[j].2.1 = 0) → rtyL qs = (qs.map (·.1), none)
  | [], _ => rfl
  | q :: r, h => by
    have h0 : q.2.1 = 0 := h 0 (by simp)
    unfold rtyL
    rw [if_pos h0, rtyL_all (qs := r) fun j hj => h (j + 1) (by simpa using hj)]
    rfl
theorem rlook_err (op w : Int) : ∀ {ts : List Int} {xs : List Ex} {k : Nat} (h : k < ts.length) (h' : k < xs.length), (∀ j (hj : j < ts.length), j < k → ts[j] = w) → ts[k] ≠ w → rlookF op w ts xs = (0, 70, xs[k].pl)
  | t :: ts, x :: xs, 0, h, h', _, he => by
    have he : ¬ t = w := by simpa using he
    unfold rlookF; rw [if_neg he]; rfl
  | t :: ts, x :: xs, k + 1, h, h', hok, he => by
    have h0 : t = w := hok 0 (by simp) (by omega)
    unfold rlookF; rw [if_pos h0]
    have := rlook_err op w (ts := ts) (xs := xs) (k := k) (by simpa using h) (by simpa using h') (fun j hj hjk => hok (j + 1) (by simpa using hj) (by omega)) (by simpa using he)
    simpa using this
theorem rlook_all (op w : Int) : ∀ {ts : List Int} {xs : List Ex}, (∀ j (hj : j < ts.length), ts[j] = w) → rlookF op w ts xs = (isS op, 0, 0)
  | [], xs, _ => by unfold rlookF; rfl
  | t :: ts, [], _ => by unfold rlookF; rfl
  | t :: ts, x :: xs, h => by
    have h0 : t = w := h 0 (by simp)
    unfold rlookF
    rw [if_pos h0]
    exact rlook_all op w fun j hj => h (j + 1) (by simpa using hj)
variable [Amb]
theorem refWants_c (op : Int) : PFun Try.prog 78 [iv op] [] (iv (wantsS op)) [] := by
  refine fn_sem pok 21 0 Try.func78 (by kernel_rfl) rfl rfl rfl rfl ?_
  refine SWp.go pok (by kernel_rfl) ?_
  repeat' (refine brP_split (fun h => ?_) (fun h => ?_))
  all_goals
    refine fin1 (dint ?_)
    simp only [beq_iff_eq, beq_eq_false_iff_ne] at *
    simp [wantsS, *]
theorem refIs07_c (op : Int) : PFun Try.prog 79 [iv op] [] (iv (isS op)) [] := by
  refine fn_sem pok 13 0 Try.func79 (by kernel_rfl) rfl rfl rfl rfl ?_
  refine SWp.go pok (by kernel_rfl) ?_
  repeat' (refine brP_split (fun h => ?_) (fun h => ?_))
  all_goals
    refine fin1 (dint ?_)
    simp only [beq_iff_eq, beq_eq_false_iff_ne, ge_iff_le, decide_eq_true_eq, decide_eq_false_iff_not] at *
    unfold isS
    repeat' split
    all_goals omega
theorem refInner_c (p : Pg) (hp : p.fits) (N : Nat) : ∀ (x : Ex), x.pre.length ≤ N → x.pre.length < 1073741824 → PFun Try.prog 59 [p.v, x.v] [] (v3 (x.rty p)) [] := by
  induction N with
  | zero => intro x h; have := x.pre_pos; omega
  | succ N ih =>
    intro x hN hB
    have hkl := x.kids_len
    have he := x.rty_eq p
    refine fn_sem pok 94 0 Try.func59 (by kernel_rfl) rfl rfl rfl rfl ?_
    refine SWp.go pok (by kernel_rfl) ?_
    refine brP_split (fun h => ?_) (fun h => ?_)
    · have h4 : x.op = 4 := by simpa using h
      rw [if_pos h4] at he
      refine PFun.call (refSlot_c p x.mon x.name hp) ?_
      refine brP_split (fun h => ?_) (fun h => ?_)
      · have h : ¬ (slotS p x.mon x.name).2 = true := by simpa using h
        rw [if_neg h] at he
        exact fin1 (by rw [he]; rfl)
      have h : (slotS p x.mon x.name).2 = true := by simpa using h
      rw [if_pos h] at he
      have hl := slotS_lt h
      rw [← slotsS_len] at hl
      obtain ⟨i, hi⟩ := Int.eq_ofNat_of_zero_le hl.1
      have hil : i < (slotsS p.mons).length := by omega
      have hv : (varS p x.mon x.name).1 = if (slotsS p.mons)[i].type = 1 then 1 else 2 := by
        unfold varS; rw [if_pos h, hi]; simp [hil]
      rw [hv] at he
      refine PFun.call (refSlots_c p hp) ?_
      refine PIdx.map' hi (get_at hil) ?_
      refine brP_split (fun h2 => ?_) (fun h2 => ?_)
      · have h2 : (slotsS p.mons)[i].type = 1 := by simpa using h2
        exact fin1 (by rw [he, if_pos h2]; rfl)
      · have h2 : ¬ (slotsS p.mons)[i].type = 1 := by simpa using h2
        exact fin1 (by rw [he, if_neg h2]; rfl)
    have h4 : ¬ x.op = 4 := by simpa using h
    rw [if_neg h4] at he
    refine PFun.call (refWants_c x.op) ?_
    refine SWp.tipSlot 10 1 rfl ?_
    refine SWp.loop (fun q : Nat × List (List D) => q.1 ≤ x.kids.length ∧ (∀ j (hj : j < x.kids.length), j < q.1 → (x.kids[j].rty p).2.1 = 0) ∧ q.2 = (x.kids.take q.1).map (fun y => icell (y.rty p).1))
      (fun q => ([(2, .ptr 0 0), (3, .ptr 1 0), (9, iv (wantsS x.op)), (10, .gsl q.2 2), (11, iv q.1)], [.box [.d (.sl (p.mons.map Mo.c)), .d (.sl (p.roles.map Ro.c))], .box x.cells, .tip 1 q.2.length]))
      (fun q => x.kids.length - q.1) (0, []) ⟨Nat.zero_le _, fun j _ h => by omega, by simp⟩ (Le.same ⟨rfl, rfl, rfl, rfl, rfl, trivial⟩) (fun q hq => ?_)
    obtain ⟨k, rows⟩ := q
    obtain ⟨hk, hok, hr⟩ := hq
    simp only at hk hok hr
    refine SWp.go pok (by kernel_rfl) ?_
    refine brP_split (fun h => ?_) (fun h => ?_)
    · have hlt : k < x.kids.length := by simpa using h
      have hm := List.getElem_mem hlt
      have hlk := Ex.pre_kid hm
      refine PIdx.ex hlt ?_
      refine ⟨_, _, ih x.kids[k] (by omega) (by omega), ?_⟩
      refine brP_split (fun h2 => ?_) (fun h2 => ?_)
      · have h2 : ¬ (x.kids[k].rty p).2.1 = 0 := by simpa using h2
        have herr := rtyL_err (qs := x.kids.map (Ex.rty p)) (k := k) (by simpa using hlt) (fun j hj hjk => by simpa using hok j (by simpa using hj) hjk) (by simpa using h2)
        exact fin1 (by rw [he]; unfold rtyK; rw [herr]; simp; rfl)
      · have h2 : (x.kids[k].rty p).2.1 = 0 := by simpa using h2
        have hrl : RL rows 1 := by
          rw [hr]; intro r hr2
          obtain ⟨_, _, rfl⟩ := List.mem_map.1 hr2; rfl
        refine ⟨⟨rfl, hrl, fun r hr2 => by simp at hr2; subst hr2; rfl, by rw [hr]; simp; omega⟩, ?_⟩
        exact ⟨(k + 1, rows ++ [icell (x.kids[k].rty p).1]), ⟨hlt, fun j hj hjk => by
          rcases Nat.lt_or_ge j k with h5 | h5
          · exact hok j hj h5
          · have : j = k := by have hjk : j < k + 1 := hjk; omega
            subst this; exact h2, by rw [hr, take_snoc x.kids k hlt, List.map_append]; rfl⟩, by show x.kids.length - (k + 1) < x.kids.length - k; omega, .inr ⟨[0, 1, 2], ⟨rfl, rfl⟩, rfl, rfl, rfl, rfl, rfl, sint (wrap_nat k (by omega)), trivial⟩⟩
    · have hk' : k = x.kids.length := by simp at h; omega
      subst hk'
      rw [List.take_length] at hr
      have hall := rtyL_all (qs := x.kids.map (Ex.rty p)) (fun j hj => by simpa using hok j (by simpa using hj) (by simpa using hj))
      obtain ⟨ts, hts⟩ : ∃ ts, x.kids.map (fun y => (y.rty p).1) = ts := ⟨_, rfl⟩
      have htl : ts.length = x.kids.length := by rw [← hts]; simp
      have hrows : rows = ts.map icell := by rw [hr, ← hts, List.map_map]; rfl
      have hall2 : rtyL (x.kids.map (Ex.rty p)) = (ts, none) := by rw [hall, ← hts, List.map_map]; rfl
      have he2 : x.rty p = rlookF x.op (rwant x.op ts) ts x.kids := by rw [he]; unfold rtyK; rw [hall2]
      subst hrows
      clear hall hr he hall2
      refine SWp.loop (fun q : Nat × Int => q.1 ≤ ts.length ∧ (∀ j (hj : j < ts.length), j < q.1 → ts[j] = rwant x.op ts) ∧ (q.2 = wantsS x.op ∨ q.2 = rwant x.op ts))
        (fun q => ([(3, .ptr 1 0), (9, iv q.2), (10, .gsl (ts.map icell) 2), (15, iv q.1)], [.box [.d (.sl (p.mons.map Mo.c)), .d (.sl (p.roles.map Ro.c))], .box x.cells, .tip 1 (ts.map icell).length]))
        (fun q => ts.length - q.1) (0, wantsS x.op) ⟨Nat.zero_le _, fun j _ h => by omega, .inl rfl⟩ (Le.same ⟨rfl, rfl, rfl, rfl, trivial⟩) (fun q hq => ?_)
      obtain ⟨k, c⟩ := q
      obtain ⟨hk, hok2, hc⟩ := hq
      simp only at hk hok2 hc
      refine SWp.go pok (by kernel_rfl) ?_
      refine brP_split (fun h => ?_) (fun h => ?_)
      · have hlt : k < ts.length := by simpa using h
        have hlt2 : k < x.kids.length := by omega
        have h0 : 0 < ts.length := by omega
        have hhd : ts.headD 0 = ts[0] := by cases ts with | nil => simp at h0 | cons a r => rfl
        have more : ts[k] = rwant x.op ts → ∀ j (hj : j < ts.length), j < k + 1 → ts[j] = rwant x.op ts := fun e j hj hjk => by
          rcases Nat.lt_or_ge j k with h5 | h5
          · exact hok2 j hj h5
          · have : j = k := by omega
            subst this; exact e
        refine brP_split (fun h2 => ?_) (fun h2 => ?_)
        · have h2 : c = 0 := by simpa using h2
          have hw : ts[0] = rwant x.op ts := by
            unfold rwant at hc ⊢
            by_cases hz : wantsS x.op = 0
            · rw [if_pos hz, hhd]
            · rw [if_neg hz] at hc; rcases hc with e | e <;> omega
          refine PIdx.map' (i := 0) rfl (get_at h0) ?_
          refine PIdx.map (get_at hlt) ?_
          refine brP_split (fun h3 => ?_) (fun h3 => ?_)
          · have h3 : ¬ ts[k] = rwant x.op ts := by rw [← hw]; simpa using h3
            have hfin := rlook_err x.op (rwant x.op ts) hlt hlt2 hok2 h3
            refine PIdx.ex hlt2 ?_
            exact fin1 (by rw [he2, hfin]; rfl)
          · have h3 : ts[k] = rwant x.op ts := by rw [← hw]; simpa using h3
            exact ⟨(k + 1, ts[0]), ⟨hlt, more h3, .inr hw⟩, by show ts.length - (k + 1) < ts.length - k; omega, .inr ⟨[0, 1, 2], ⟨rfl, rfl⟩, rfl, rfl, rfl, rfl, sint (wrap_nat k (by omega)), trivial⟩⟩
        · have h2 : ¬ c = 0 := by simpa using h2
          have hw : c = rwant x.op ts := by
            rcases hc with e | e
            · unfold rwant; rw [if_neg (by omega)]; exact e
            · exact e
          refine PIdx.map (get_at hlt) ?_
          refine brP_split (fun h3 => ?_) (fun h3 => ?_)
          · have h3 : ¬ ts[k] = rwant x.op ts := by rw [← hw]; simpa using h3
            have hfin := rlook_err x.op (rwant x.op ts) hlt hlt2 hok2 h3
            refine PIdx.ex hlt2 ?_
            exact fin1 (by rw [he2, hfin]; rfl)
          · have h3 : ts[k] = rwant x.op ts := by rw [← hw]; simpa using h3
            exact ⟨(k + 1, c), ⟨hlt, more h3, .inr hw⟩, by show ts.length - (k + 1) < ts.length - k; omega, .inr ⟨[0, 1, 2], ⟨rfl, rfl⟩, rfl, rfl, rfl, rfl, sint (wrap_nat k (by omega)), trivial⟩⟩
      · have hk' : k = ts.length := by simp at h; omega
        have hfin := rlook_all x.op (rwant x.op ts) (ts := ts) (xs := x.kids) (fun j hj => hok2 j hj (by omega))
        refine PFun.call (refIs07_c x.op) ?_
        exact fin1 (by rw [he2, hfin]; rfl)
def rtypeS (p : Pg) (x : Ex) : Int × Int × Int := if x.pre.all isPartS = true then x.rty p else (0, 20, 0)
theorem refType_c (p : Pg) (x : Ex) (hp : p.fits) (hx : x.fits) : PFun Try.prog 36 [p.v, x.v] [] (v3 (rtypeS p x)) [] := by
  refine fn_sem pok 16 0 Try.func36 (by kernel_rfl) rfl rfl rfl rfl ?_
  refine SWp.go pok (by kernel_rfl) ?_
  refine PFun.call (refIsExpr_c _ x (Nat.le_refl _) hx) ?_
  refine brP_split (fun h => ?_) (fun h => ?_)
  · have h : ¬ x.pre.all isPartS = true := by simpa using h
    exact fin1 (by unfold rtypeS; rw [if_neg h]; rfl)
  · have h : x.pre.all isPartS = true := by simpa using h
    refine PFun.call (refInner_c p hp _ x (Nat.le_refl _) hx.1) ?_
    exact fin1 (by unfold rtypeS; rw [if_pos h]; rfl)
end Go.Proofs.Ytlafnhpmhflnaaa.Q

namespace Go.Proofs.Ytlafnhpmhflnaaa.Q
open Go.RowKit
variable [Amb]
theorem refAddB_c (x y : Ln) (hx : x.ok) (hy : y.ok) : PFun Try.prog 23 [x.v, y.v] [] (lb (addL x y)) [] := by
  have h := refAddL_c x y hx hy
  rwa [refAddL_eq _ _ hx hy] at h
theorem refSum_c (p : Pg) (hp : p.fits) (N : Nat) : ∀ (x : Ex), x.pre.length ≤ N → x.pre.length < 1073741824 → x.nums → (∀ y ∈ x.pre, isPartS y = true) →
    PFun Try.prog 37 [p.v, x.v] [] (lb (x.sum p)) [] := by
  induction N with
  | zero => intro x h; have := x.pre_pos; omega
  | succ N ih =>
    intro x hN hB hx hpart
    have hkl := x.kids_len
    have hxp := hpart x (by rw [x.pre_eq]; exact List.mem_cons_self)
    have hxn := hx x (by rw [x.pre_eq]; exact List.mem_cons_self)
    have hkid : ∀ (k : Nat) (h : k < x.kids.length), PFun Try.prog 37 [p.v, x.kids[k].v] [] (lb (x.kids[k].sum p)) [] ∧ (x.kids[k].sum p).1.ok := fun k h => by
      have hm := List.getElem_mem h
      have hlk := Ex.pre_kid hm
      exact ⟨ih x.kids[k] (by omega) (by omega) (Ex.nums_kid hx hm) (fun y hy => hpart y (Ex.pre_sub hm hy)), sum_ok p hp _ _ (Nat.le_refl _) (Ex.nums_kid hx hm)⟩
    have hlen : ((x.kids.length : Int) == partsS x.op) = true := by
      unfold isPartS at hxp; simp only [Bool.and_eq_true] at hxp; exact hxp.1.1
    rw [beq_iff_eq, partsS_eq] at hlen
    refine fn_sem pok 96 0 Try.func37 (by kernel_rfl) rfl rfl rfl rfl ?_
    by_cases h1 : x.op = 1
    · refine SWp.go pok (by kernel_rfl) ?_
      refine brP_true (by simpa using h1) ?_
      exact fin1 (by rw [x.sum_eq, sumK_num h1]; rfl)
    by_cases h4 : x.op = 4
    · refine SWp.go pok (by kernel_rfl) ?_
      refine brP_false (by simpa using h1) ?_
      refine brP_true (by simpa using h4) ?_
      refine PFun.call (refSlot_c p x.mon x.name hp) ?_
      exact fin1 (by rw [x.sum_eq, sumK_var h1 h4]; rfl)
    by_cases hop : x.op = 6 ∨ x.op = 7 ∨ x.op = 8 ∨ x.op = 9
    · have hk0 : 0 < x.kids.length := by
        rcases hop with e | e | e | e <;> · rw [e] at hlen; simp at hlen; omega
      have e0 : x.sum p = sumA x.op x.n (x.kids[0].sum p) (x.kids.map (Ex.sum p))[1]? := by
        rw [x.sum_eq]
        unfold sumK
        rw [if_neg h1, if_neg h4]
        simp [hk0]
      have a0 := (hkid 0 hk0).2
      have tail : ∀ (Q : Prop), Q → Q := fun _ h => h
      rcases hop with h6 | h7 | h8 | h9
      · refine SWp.go pok (by kernel_rfl) ?_
        refine brP_false (by simpa using h1) ?_
        refine brP_false (by simpa using h4) ?_
        refine brP_true (by simpa using h6) ?_
        refine PIdx.ex' rfl hk0 ?_
        refine ⟨_, _, (hkid 0 hk0).1, ?_⟩
        refine brP_split (fun h => ?_) (fun h => ?_)
        · have h : ¬ (x.kids[0].sum p).2 = true := by simpa using h
          exact fin1 (by rw [e0]; unfold sumA; rw [if_neg h]; rfl)
        have ha : (x.kids[0].sum p).2 = true := by simpa using h
        refine brP_true (by simpa using h6) ?_
        refine PFun.call (refScale_c _ (-1) a0 (by unfold R64; decide)) ?_
        exact fin1 (by rw [e0]; unfold sumA; rw [if_pos ha, if_pos h6]; rfl)
      · refine SWp.go pok (by kernel_rfl) ?_
        refine brP_false (by simpa using h1) ?_
        refine brP_false (by simpa using h4) ?_
        have h6 : ¬ x.op = 6 := by omega
        refine brP_false (by simpa using h6) ?_
        refine brP_true (by simpa using h7) ?_
        refine PIdx.ex' rfl hk0 ?_
        refine ⟨_, _, (hkid 0 hk0).1, ?_⟩
        refine brP_split (fun h => ?_) (fun h => ?_)
        · have h : ¬ (x.kids[0].sum p).2 = true := by simpa using h
          exact fin1 (by rw [e0]; unfold sumA; rw [if_neg h]; rfl)
        have ha : (x.kids[0].sum p).2 = true := by simpa using h
        refine brP_false (by simpa using h6) ?_
        refine brP_true (by simpa using h7) ?_
        refine PFun.call (refScale_c _ x.n a0 hxn) ?_
        exact fin1 (by rw [e0]; unfold sumA; rw [if_pos ha, if_neg h6, if_pos h7]; rfl)
      · refine SWp.go pok (by kernel_rfl) ?_
        have h6 : ¬ x.op = 6 := by omega
        have h7 : ¬ x.op = 7 := by omega
        have hk1 : 1 < x.kids.length := by rw [h8] at hlen; simp at hlen; omega
        have e1 : (x.kids.map (Ex.sum p))[1]? = some (x.kids[1].sum p) := by simp [hk1]
        have b0 := (hkid 1 hk1).2
        refine brP_false (by simpa using h1) ?_
        refine brP_false (by simpa using h4) ?_
        refine brP_false (by simpa using h6) ?_
        refine brP_false (by simpa using h7) ?_
        refine brP_true (by simpa using h8) ?_
        refine PIdx.ex' rfl hk0 ?_
        refine ⟨_, _, (hkid 0 hk0).1, ?_⟩
        refine brP_split (fun h => ?_) (fun h => ?_)
        · have h : ¬ (x.kids[0].sum p).2 = true := by simpa using h
          exact fin1 (by rw [e0]; unfold sumA; rw [if_neg h]; rfl)
        have ha : (x.kids[0].sum p).2 = true := by simpa using h
        have e2 : x.sum p = if (x.kids[1].sum p).2 = true then addL (x.kids[0].sum p).1 (x.kids[1].sum p).1 else noLn := by
          rw [e0, e1]; unfold sumA; rw [if_pos ha, if_neg h6, if_neg h7]
          show sumB _ _ _ = _
          unfold sumB; rw [if_pos h8]
        refine brP_false (by simpa using h6) ?_
        refine brP_false (by simpa using h7) ?_
        refine PIdx.ex' rfl hk1 ?_
        refine ⟨_, _, (hkid 1 hk1).1, ?_⟩
        refine brP_split (fun h => ?_) (fun h => ?_)
        · rw [if_pos h] at e2
          repeat refine brP_true h ?_
          refine brP_false (by simp [h8]) ?_
          repeat refine brP_true h ?_
          refine brP_false (by simp [h]) ?_
          refine PFun.call (refAddB_c _ _ a0 b0) ?_
          exact fin1 (by rw [e2]; rfl)
        · rw [if_neg (by rw [h]; simp)] at e2
          repeat refine brP_false h ?_
          refine brP_true (by simp [h]) ?_
          exact fin1 (by rw [e2]; rfl)
      · refine SWp.go pok (by kernel_rfl) ?_
        have h6 : ¬ x.op = 6 := by omega
        have h7 : ¬ x.op = 7 := by omega
        have h8 : ¬ x.op = 8 := by omega
        have hk1 : 1 < x.kids.length := by rw [h9] at hlen; simp at hlen; omega
        have e1 : (x.kids.map (Ex.sum p))[1]? = some (x.kids[1].sum p) := by simp [hk1]
        have b0 := (hkid 1 hk1).2
        refine brP_false (by simpa using h1) ?_
        refine brP_false (by simpa using h4) ?_
        refine brP_false (by simpa using h6) ?_
        refine brP_false (by simpa using h7) ?_
        refine brP_false (by simpa using h8) ?_
        refine brP_true (by simpa using h9) ?_
        refine PIdx.ex' rfl hk0 ?_
        refine ⟨_, _, (hkid 0 hk0).1, ?_⟩
        refine brP_split (fun h => ?_) (fun h => ?_)
        · have h : ¬ (x.kids[0].sum p).2 = true := by simpa using h
          exact fin1 (by rw [e0]; unfold sumA; rw [if_neg h]; rfl)
        have ha : (x.kids[0].sum p).2 = true := by simpa using h
        have e2 : x.sum p = if (x.kids[1].sum p).2 = true then if (scaleS (x.kids[1].sum p).1 (-1)).2 = true then addL (x.kids[0].sum p).1 (scaleS (x.kids[1].sum p).1 (-1)).1 else noLn else noLn := by
          rw [e0, e1]; unfold sumA; rw [if_pos ha, if_neg h6, if_neg h7]
          show sumB _ _ _ = _
          unfold sumB; rw [if_neg h8, if_pos h9]
        refine brP_false (by simpa using h6) ?_
        refine brP_false (by simpa using h7) ?_
        refine PIdx.ex' rfl hk1 ?_
        refine ⟨_, _, (hkid 1 hk1).1, ?_⟩
        refine brP_split (fun h => ?_) (fun h => ?_)
        · rw [if_pos h] at e2
          repeat refine brP_true h ?_
          refine brP_true (by simp [h9]) ?_
          repeat refine brP_true h ?_
          refine PFun.call (refScale_c _ (-1) b0 (by unfold R64; decide)) ?_
          refine brP_split (fun h => ?_) (fun h => ?_)
          · have h : ¬ (scaleS (x.kids[1].sum p).1 (-1)).2 = true := by simpa using h
            exact fin1 (by rw [e2, if_neg h]; rfl)
          · have h : (scaleS (x.kids[1].sum p).1 (-1)).2 = true := by simpa using h
            refine PFun.call (refAddB_c _ _ a0 (scaleS_ok b0)) ?_
            exact fin1 (by rw [e2, if_pos h]; rfl)
        · rw [if_neg (by rw [h]; simp)] at e2
          repeat refine brP_false h ?_
          refine brP_true (by simp [h]) ?_
          exact fin1 (by rw [e2]; rfl)
    · refine SWp.go pok (by kernel_rfl) ?_
      have h6 : ¬ x.op = 6 := by omega
      have h7 : ¬ x.op = 7 := by omega
      have h8 : ¬ x.op = 8 := by omega
      have h9 : ¬ x.op = 9 := by omega
      refine brP_false (by simpa using h1) ?_
      refine brP_false (by simpa using h4) ?_
      refine brP_false (by simpa using h6) ?_
      refine brP_false (by simpa using h7) ?_
      refine brP_false (by simpa using h8) ?_
      refine brP_false (by simpa using h9) ?_
      exact fin1 (by
        rw [x.sum_eq]; unfold sumK; rw [if_neg h1, if_neg h4]
        cases (x.kids.map (Ex.sum p))[0]? with
        | none => rfl
        | some a =>
          show lb noLn = lb (sumA _ _ _ _)
          unfold sumA; rw [if_neg h6, if_neg h7]
          split
          · cases (x.kids.map (Ex.sum p))[1]? with
            | none => rfl
            | some b => show lb noLn = lb (sumB _ _ _); unfold sumB; rw [if_neg h8, if_neg h9]
          · rfl)
end Go.Proofs.Ytlafnhpmhflnaaa.Q

namespace Go.Proofs.Ytlafnhpmhflnaaa.Q
open Go.RowKit
variable [Amb]
theorem failS_err {s : Int × Int} {e pl : Int} (h : s.1 ≠ 0) : failS s e pl = s := if_neg h
theorem lookS_err {q : Int × (Int × Int)} {t pl : Int} (h : q.2.1 ≠ 0) : (lookS q t pl).2 = q.2 := by
  unfold lookS
  dsimp only
  generalize (if q.1 = 0 then t else q.1) = w
  split
  · rfl
  · exact failS_err h
theorem looksS_err : ∀ {ts : List Int} {xs : List Ex} {q : Int × (Int × Int)}, q.2.1 ≠ 0 → (looksS q ts xs).2 = q.2
  | [], _, _, _ => by unfold looksS; rfl
  | _ :: _, [], _, _ => by unfold looksS; rfl
  | t :: ts, x :: xs, q, h => by
    have e := lookS_err (t := t) (pl := x.pl) h
    rw [looksS, looksS_err (by rw [e]; exact h), e]
theorem tys_err {p : Pg} : ∀ {l : List Ex} {s : Int × Int}, (∀ x ∈ l, ∀ s : Int × Int, s.1 ≠ 0 → (x.ty p s).2 = s) → s.1 ≠ 0 → (Ex.tys p l s).2 = s
  | [], s, _, _ => by simp [Ex.tys]
  | x :: r, s, hx, h => by
    have e := hx x List.mem_cons_self s h
    rw [Ex.tys]
    show (Ex.tys p r (x.ty p s).2).2 = s
    rw [e]
    exact tys_err (fun y hy => hx y (List.mem_cons_of_mem _ hy)) h
theorem ty_err {p : Pg} (N : Nat) : ∀ (x : Ex) (s : Int × Int), x.pre.length ≤ N → s.1 ≠ 0 → (x.ty p s).2 = s := by
  induction N with
  | zero => intro x s h; have := x.pre_pos; omega
  | succ N ih =>
    intro x s hN h
    by_cases h4 : x.op = 4
    · rw [Ex.ty_var h4]
      dsimp only
      split
      · rfl
      · exact failS_err h
    · rw [Ex.ty_not h4]
      have e := tys_err (p := p) (l := x.kids) (s := s) (fun y hy s hs => ih y s (by have := Ex.pre_kid hy; omega) hs) h
      show (looksS ((sortS x.op).2, (Ex.tys p x.kids s).2) (Ex.tys p x.kids s).1 x.kids).2 = s
      rw [e, looksS_err (by exact h)]
theorem varS_two {p : Pg} {mon name : Str} : (varS p mon name).2 = (slotS p mon name).2 ∧ ((slotS p mon name).2 = true → (varS p mon name).1 = 1 ∨ (varS p mon name).1 = 2) := by
  by_cases h : (slotS p mon name).2 = true
  · have hl := slotS_lt h
    rw [← slotsS_len] at hl
    obtain ⟨i, hi⟩ := Int.eq_ofNat_of_zero_le hl.1
    have hil : i < (slotsS p.mons).length := by omega
    have hv : varS p mon name = (if (slotsS p.mons)[i].type = 1 then 1 else 2, true) := by
      unfold varS; rw [if_pos h, hi]; simp [hil]
    rw [hv, h]
    refine ⟨rfl, fun _ => ?_⟩
    dsimp only
    split <;> simp
  · have hv : varS p mon name = (0, false) := by unfold varS; rw [if_neg h]
    rw [hv]
    exact ⟨by simpa using h, fun e => absurd e h⟩
theorem looks_all {w : Int} {s : Int × Int} : ∀ {ts : List Int} {xs : List Ex} {q : Int}, (∀ t ∈ ts, t = w) → (q = 0 ∨ q = w) → (looksS (q, s) ts xs).2 = s
  | [], _, _, _, _ => by unfold looksS; rfl
  | _ :: _, [], _, _, _ => by unfold looksS; rfl
  | t :: ts, x :: xs, q, h, hq => by
    have ht := h t List.mem_cons_self
    have e : lookS (q, s) t x.pl = (w, s) := by
      unfold lookS
      dsimp only
      have e2 : (if q = 0 then t else q) = w := by
        split
        · exact ht
        · rcases hq with e | e
          · omega
          · exact e
      rw [e2, if_pos ht]
    rw [looksS, e]
    exact looks_all (fun u hu => h u (List.mem_cons_of_mem _ hu)) (.inr rfl)
theorem looks_bad {w : Int} (hw : w ≠ 0) {s : Int × Int} (hs : s.1 = 0) : ∀ {ts : List Int} {xs : List Ex} {q : Int}, ts.length ≤ xs.length → (∃ t ∈ ts, t ≠ w) → (q = w ∨ (q = 0 ∧ ts.headD 0 = w)) → (looksS (q, s) ts xs).2.1 ≠ 0
  | [], _, _, _, ⟨t, ht, _⟩, _ => by simp at ht
  | _ :: _, [], _, hl, _, _ => by simp at hl
  | t :: ts, x :: xs, q, hl, ⟨u, hu, hne⟩, hq => by
    have e2 : (if q = 0 then t else q) = w := by
      rcases hq with e | ⟨e, e'⟩
      · rw [if_neg (by omega)]; exact e
      · rw [if_pos e]; exact e'
    rw [looksS]
    by_cases ht : t = w
    · have e : lookS (q, s) t x.pl = (w, s) := by unfold lookS; dsimp only; rw [e2, if_pos ht]
      rw [e]
      rcases List.mem_cons.1 hu with e | e
      · exact absurd (e ▸ ht) hne
      · exact looks_bad hw hs (by simpa using hl) ⟨u, e, hne⟩ (.inl rfl)
    · have e : lookS (q, s) t x.pl = (w, (70, x.pl)) := by unfold lookS failS; dsimp only; rw [e2, if_neg ht, if_pos hs]
      rw [e, looksS_err (by show (70 : Int) ≠ 0; decide)]
      show (70 : Int) ≠ 0
      decide
theorem sortS_ops {op : Int} (h0 : 1 ≤ op) (h1 : op < 18) (h4 : op ≠ 4) : (sortS op).1 = isS op ∧ (5 ≤ op → (sortS op).2 = wantsS op) := by
  have : op = 1 ∨ op = 2 ∨ op = 3 ∨ op = 5 ∨ op = 6 ∨ op = 7 ∨ op = 8 ∨ op = 9 ∨ op = 10 ∨ op = 11 ∨ op = 12 ∨ op = 13 ∨ op = 14 ∨ op = 15 ∨ op = 16 ∨ op = 17 := by omega
  rcases this with rfl | rfl | rfl | rfl | rfl | rfl | rfl | rfl | rfl | rfl | rfl | rfl | rfl | rfl | rfl | rfl <;> exact ⟨by decide, by decide⟩
theorem isS_two (op : Int) : isS op = 1 ∨ isS op = 2 := by
  unfold isS
  split
  · exact .inr rfl
  · split
    · exact .inr rfl
    · exact .inl rfl
theorem tys_ok {p : Pg} : ∀ {l : List Ex} {s : Int × Int}, (∀ x ∈ l, x.ty p s = ((x.rty p).1, s)) → Ex.tys p l s = (l.map fun x => (x.rty p).1, s)
  | [], s, _ => by simp [Ex.tys]
  | x :: r, s, h => by
    rw [Ex.tys, h x List.mem_cons_self]
    dsimp only
    rw [tys_ok fun y hy => h y (List.mem_cons_of_mem _ hy)]
    rfl
theorem first_bad : ∀ (qs : List (Int × Int × Int)), (∀ j (hj : j < qs.length), qs[j].2.1 = 0) ∨ ∃ k, ∃ h : k < qs.length, (∀ j (hj : j < qs.length), j < k → qs[j].2.1 = 0) ∧ qs[k].2.1 ≠ 0
  | [] => .inl fun j hj => by simp at hj
  | q :: r => by
    by_cases h0 : q.2.1 = 0
    · rcases first_bad r with h | ⟨k, hk, h1, h2⟩
      · exact .inl fun j hj => by cases j with
          | zero => exact h0
          | succ j => exact h j (by simpa using hj)
      · exact .inr ⟨k + 1, by simpa using hk, fun j hj hjk => by cases j with
          | zero => exact h0
          | succ j => exact h1 j (by simpa using hj) (by omega), h2⟩
    · exact .inr ⟨0, by simp, fun j _ h => by omega, h0⟩
theorem ty_same {p : Pg} (N : Nat) : ∀ (x : Ex) (s : Int × Int), x.pre.length ≤ N → (∀ y ∈ x.pre, isPartS y = true) → s.1 = 0 →
    ((x.rty p).2.1 = 0 → x.ty p s = ((x.rty p).1, s) ∧ ((x.rty p).1 = 1 ∨ (x.rty p).1 = 2)) ∧ ((x.rty p).2.1 ≠ 0 → (x.ty p s).2.1 ≠ 0) := by
  induction N with
  | zero => intro x s h; have := x.pre_pos; omega
  | succ N ih =>
    intro x s hN hpart hs
    have hxp := hpart x (by rw [x.pre_eq]; exact List.mem_cons_self)
    have hop := partS_op hxp
    have hlen : ((x.kids.length : Int) == partsS x.op) = true := by
      unfold isPartS at hxp; simp only [Bool.and_eq_true] at hxp; exact hxp.1.1
    rw [beq_iff_eq, partsS_eq] at hlen
    have ihk : ∀ y ∈ x.kids, ∀ s : Int × Int, s.1 = 0 → ((y.rty p).2.1 = 0 → y.ty p s = ((y.rty p).1, s) ∧ ((y.rty p).1 = 1 ∨ (y.rty p).1 = 2)) ∧ ((y.rty p).2.1 ≠ 0 → (y.ty p s).2.1 ≠ 0) :=
      fun y hy s hs => ih y s (by have := Ex.pre_kid hy; omega) (fun z hz => hpart z (Ex.pre_sub hy hz)) hs
    by_cases h4 : x.op = 4
    · obtain ⟨v1, v2⟩ := @varS_two _ p x.mon x.name
      rw [Ex.ty_var h4, x.rty_eq, if_pos h4, v1]
      by_cases h : (slotS p x.mon x.name).2 = true
      · rw [if_pos h, if_pos h]
        exact ⟨fun _ => ⟨rfl, v2 h⟩, fun e => absurd rfl e⟩
      · rw [if_neg h, if_neg h]
        refine ⟨fun e => ?_, fun _ => ?_⟩
        · exact absurd e (by show ¬ (61 : Int) = 0; decide)
        · unfold failS; rw [if_pos hs]; show (61 : Int) ≠ 0; decide
    have h1 : 1 ≤ x.op := by
      rcases Int.lt_or_le x.op 1 with h | h
      · have : x.op = 0 := by omega
        rw [this] at hlen; simp at hlen
      · exact h
    obtain ⟨o1, o2⟩ := sortS_ops h1 hop.2 h4
    rw [Ex.ty_not h4, x.rty_eq, if_neg h4]
    rcases first_bad (x.kids.map (Ex.rty p)) with hall | ⟨k, hk, hb, hne⟩
    · have hall' : ∀ y ∈ x.kids, (y.rty p).2.1 = 0 := fun y hy => by
        obtain ⟨j, hj, rfl⟩ := List.getElem_of_mem hy
        have := hall j (by simpa using hj)
        simpa using this
      have htys := tys_ok (p := p) (l := x.kids) (s := s) (fun y hy => ((ihk y hy s hs).1 (hall' y hy)).1)
      have hrty := rtyL_all hall
      rw [List.map_map] at hrty
      obtain ⟨ts, hts⟩ : ∃ ts, x.kids.map (fun y => (y.rty p).1) = ts := ⟨_, rfl⟩
      have hts' : x.kids.map ((fun q : Int × Int × Int => q.1) ∘ Ex.rty p) = ts := hts
      rw [hts'] at hrty
      rw [hts] at htys
      have htwo : ∀ t ∈ ts, t = 1 ∨ t = 2 := fun t ht => by
        rw [← hts] at ht
        obtain ⟨y, hy, rfl⟩ := List.mem_map.1 ht
        exact ((ihk y hy s hs).1 (hall' y hy)).2
      have htl : ts.length = x.kids.length := by rw [← hts]; simp
      unfold rtyK
      rw [htys, hrty]
      dsimp only
      by_cases hw : ∀ t ∈ ts, t = rwant x.op ts
      · have e1 := rlook_all x.op (rwant x.op ts) (ts := ts) (xs := x.kids) (fun j hj => hw _ (List.getElem_mem hj))
        rw [e1]
        refine ⟨fun _ => ⟨?_, isS_two _⟩, fun e => absurd rfl e⟩
        rw [o1]
        congr 1
        rcases Nat.eq_zero_or_pos ts.length with h0 | h0
        · rw [List.eq_nil_of_length_eq_zero h0]; unfold looksS; rfl
        · have h5 : 5 ≤ x.op := by
            rcases Int.lt_or_le x.op 5 with h | h
            · rw [if_pos (by omega)] at hlen; omega
            · exact h
          refine looks_all hw ?_
          rw [o2 h5]
          unfold rwant
          by_cases hz : wantsS x.op = 0
          · exact .inl hz
          · rw [if_neg hz]; exact .inr rfl
      · have hex : ∃ t ∈ ts, t ≠ rwant x.op ts := Classical.byContradiction fun hn => hw fun t ht => Classical.byContradiction fun he => hn ⟨t, ht, he⟩
        obtain ⟨t0, ht0, hne0⟩ := hex
        have h0 : 0 < ts.length := List.length_pos_of_mem ht0
        have h5 : 5 ≤ x.op := by
          rcases Int.lt_or_le x.op 5 with h | h
          · rw [if_pos (by omega)] at hlen; omega
          · exact h
        have hwne : rwant x.op ts ≠ 0 := by
          unfold rwant
          split
          · cases ts with
            | nil => simp at h0
            | cons a r => have := htwo a List.mem_cons_self; show a ≠ 0; omega
          · assumption
        have hbad := looks_bad hwne hs (ts := ts) (xs := x.kids) (q := (sortS x.op).2) (by omega) ⟨t0, ht0, hne0⟩ (by
          rw [o2 h5]
          unfold rwant
          by_cases hz : wantsS x.op = 0
          · rw [if_pos hz]; exact .inr ⟨hz, rfl⟩
          · rw [if_neg hz]; exact .inl rfl)
        obtain ⟨j, hj, e⟩ := List.getElem_of_mem ht0
        -- the first that is not as it must be
        have hr : (rlookF x.op (rwant x.op ts) ts x.kids).2.1 ≠ 0 := by
          have gen : ∀ (ts : List Int) (xs : List Ex), ts.length ≤ xs.length → (∃ t ∈ ts, t ≠ rwant x.op ts → True) → ∀ w, (∃ t ∈ ts, t ≠ w) → (rlookF x.op w ts xs).2.1 ≠ 0 := by
            intro ts
            induction ts with
            | nil => rintro xs _ _ w ⟨t, ht, _⟩; simp at ht
            | cons a r ihr =>
              rintro xs hl _ w ⟨t, ht, hne⟩
              cases xs with
              | nil => simp at hl
              | cons y ys =>
                unfold rlookF
                by_cases ha : a = w
                · rw [if_pos ha]
                  rcases List.mem_cons.1 ht with e | e
                  · exact absurd (e ▸ ha) hne
                  · exact ihr ys (by simpa using hl) ⟨t, e, fun _ => trivial⟩ w ⟨t, e, hne⟩
                · rw [if_neg ha]; show (70 : Int) ≠ 0; decide
          exact gen ts x.kids (by omega) ⟨t0, ht0, fun _ => trivial⟩ _ ⟨t0, ht0, hne0⟩
        exact ⟨fun e => absurd e hr, fun _ => hbad⟩
    · have hrt := rtyL_err hk hb hne
      have hkl : k < x.kids.length := by simpa using hk
      have hne' : (x.kids[k].rty p).2.1 ≠ 0 := by simpa using hne
      unfold rtyK
      rw [hrt]
      dsimp only
      refine ⟨fun e => absurd e hne, fun _ => ?_⟩
      have htk := tys_ok (p := p) (l := x.kids.take k) (s := s) (fun y hy => by
        obtain ⟨j, hj, rfl⟩ := List.getElem_of_mem hy
        have hjk : j < k := by simp at hj; omega
        have hjl : j < x.kids.length := by simp at hj; omega
        have := hb j (by simpa using hjl) hjk
        rw [List.getElem_take]
        exact ((ihk x.kids[j] (List.getElem_mem hjl) s hs).1 (by simpa using this)).1)
      have e : x.kids = x.kids.take k ++ x.kids[k] :: x.kids.drop (k + 1) := by rw [← List.drop_eq_getElem_cons hkl, List.take_append_drop]
      have hcode : (Ex.tys p x.kids s).2.1 ≠ 0 := by
        have e2 : (Ex.tys p x.kids s).2 = (x.kids[k].ty p s).2 := by
          have h3 : Ex.tys p x.kids s = Ex.tys p (x.kids.take k ++ x.kids[k] :: x.kids.drop (k + 1)) s := congrArg (fun l => Ex.tys p l s) e
          rw [h3, Ex.tys_append, htk]
          show (Ex.tys p (x.kids[k] :: x.kids.drop (k + 1)) s).2 = _
          rw [Ex.tys]
          show (Ex.tys p (x.kids.drop (k + 1)) (x.kids[k].ty p s).2).2 = _
          exact tys_err (fun y hy s hs => ty_err _ y s (Nat.le_refl _) hs) ((ihk x.kids[k] (List.getElem_mem hkl) s hs).2 hne')
        rw [e2]
        exact (ihk x.kids[k] (List.getElem_mem hkl) s hs).2 hne'
      show (looksS ((sortS x.op).2, (Ex.tys p x.kids s).2) (Ex.tys p x.kids s).1 x.kids).2.1 ≠ 0
      rw [looksS_err (by exact hcode)]
      exact hcode
/-- Both ways the same types; or both ways an error. -/
theorem type_same (p : Pg) (x : Ex) : ((typeS p x).2.1 = 0 ↔ (rtypeS p x).2.1 = 0) ∧ ((typeS p x).2.1 = 0 → (typeS p x).1 = (rtypeS p x).1) := by
  unfold typeS rtypeS checkS
  cases hall : x.pre.all isPartS with
  | false =>
    refine ⟨⟨fun h => ?_, fun h => ?_⟩, fun h => ?_⟩
    · exact absurd h (by show ¬ (20 : Int) = 0; decide)
    · exact absurd h (by show ¬ (20 : Int) = 0; decide)
    · exact absurd h (by show ¬ (20 : Int) = 0; decide)
  | true =>
    obtain ⟨h1, h2⟩ := ty_same (p := p) _ x (0, 0) (Nat.le_refl _) (fun y hy => List.all_eq_true.1 hall y hy) rfl
    show ((if (x.ty p (0, 0)).2.1 = 0 then ((x.ty p (0, 0)).1, (0 : Int), (0 : Int)) else (0, (x.ty p (0, 0)).2.1, (x.ty p (0, 0)).2.2)).2.1 = 0 ↔ (x.rty p).2.1 = 0) ∧ _
    by_cases h : (x.rty p).2.1 = 0
    · obtain ⟨e, _⟩ := h1 h
      rw [e]
      exact ⟨⟨fun _ => h, fun _ => rfl⟩, fun _ => rfl⟩
    · have e := h2 h
      rw [if_neg e]
      refine ⟨⟨fun e' => absurd e' e, fun e' => absurd e' h⟩, fun e' => ?_⟩
      simp [e] at e'
def rOfS (p : Pg) (x : Ex) : Ln × Bool := if (rtypeS p x).2.1 = 0 ∧ (rtypeS p x).1 = 2 then x.sum p else noLn
theorem of_same (p : Pg) (x : Ex) : linOfS p x = rOfS p x := by
  obtain ⟨h1, h2⟩ := type_same p x
  unfold linOfS rOfS
  by_cases h : (typeS p x).2.1 = 0
  · rw [h2 h]
    by_cases h3 : (rtypeS p x).1 = 2
    · rw [if_pos ⟨h, h3⟩, if_pos ⟨h1.1 h, h3⟩]
    · rw [if_neg (fun e => h3 e.2), if_neg (fun e => h3 e.2)]
  · rw [if_neg (fun e => h e.1), if_neg (fun e => h (h1.2 e.1))]
theorem refOf_c (p : Pg) (x : Ex) (hp : p.fits) (hx : x.fits) (hn : x.nums) : PFun Try.prog 13 [p.v, x.v] [] (lb (linOfS p x)) [] := by
  rw [of_same]
  refine fn_sem pok 28 0 Try.func13 (by kernel_rfl) rfl rfl rfl rfl ?_
  refine SWp.go pok (by kernel_rfl) ?_
  refine PFun.call (refType_c p x hp hx) ?_
  refine brP_split (fun h => ?_) (fun h => ?_)
  · have h : ¬ (rtypeS p x).2.1 = 0 := by simpa using h
    exact fin1 (by unfold rOfS; rw [if_neg (fun h' => h h'.1)]; rfl)
  have h0 : (rtypeS p x).2.1 = 0 := by simpa using h
  refine brP_split (fun h => ?_) (fun h => ?_)
  · have h : ¬ (rtypeS p x).1 = 2 := by simpa using h
    exact fin1 (by unfold rOfS; rw [if_neg (fun h' => h h'.2)]; rfl)
  have h2 : (rtypeS p x).1 = 2 := by simpa using h
  refine PFun.call (refSum_c p hp _ x (Nat.le_refl _) hx.1 hn (typeS_parts ((type_same p x).1.2 h0))) ?_
  exact fin1 (by unfold rOfS; rw [if_pos ⟨h0, h2⟩]; rfl)
end Go.Proofs.Ytlafnhpmhflnaaa.Q

namespace Go.Proofs.Ytlafnhpmhflnaaa.Q
open Go.RowKit
/-- A statement's cells. -/
def St.row (x : St) : List D := [.int .i64 x.kind, .str x.mon, .str x.name, .int .i64 x.n, .int .i64 x.e.op, .str x.e.mon, .str x.e.name, .int .i64 x.e.n, .sl (x.e.kids.map Ex.e), .int .i64 x.e.pl, .sl (x.blocks.map blk), .int .i64 x.pl]
theorem St.c_row (x : St) : x.c = x.row := by rw [x.c_eq, x.e.e_eq]; rfl
theorem PIdx.st [Amb] {l : List St} {k : Nat} {K : List D → Prop} (h : k < l.length) (c : K (St.row l[k])) : PIdx (l.map St.c) (k : Int) K := PIdx.map (get_at h) (by rw [St.c_row]; exact c)
theorem St.blocks_size {l : List St} {i k : Nat} (hi : i < l.length) (hk : k < l[i].blocks.length) : SizeOf.sizeOf l[i].blocks[k] < SizeOf.sizeOf l := by
  have h1 := List.sizeOf_lt_of_mem (List.getElem_mem hi)
  have h2 := List.sizeOf_lt_of_mem (List.getElem_mem hk)
  have h3 : SizeOf.sizeOf l[i].blocks < SizeOf.sizeOf l[i] := by
    generalize l[i] = s
    cases s
    simp
    omega
  omega
variable [Amb]
/-- A number that is left. -/
def Left (n : Int) (X : Int → Prop) : V → List Ob → Prop := fun r h' => ∃ z : Int, r = iv z ∧ h' = [] ∧ -1 ≤ z ∧ z ≤ n ∧ X z
theorem restExpr_c (N : Nat) : ∀ (x : Ex) (n : Int), x.pre.length ≤ N → -1 ≤ n → n ≤ 1000 →
    PCalls Try.prog 10 [x.v, iv n] [] (Left n fun z => 0 ≤ z → (x.pre.length : Int) = n - z ∧ ∀ y ∈ x.pre, y.kids.length ≤ 1000 ∧ y.mon.length ≤ 1000 ∧ y.name.length ≤ 1000) := by
  induction N with
  | zero => intro x n h; have := x.pre_pos; omega
  | succ N ih =>
    intro x n hN hn0 hn1
    refine fn_sem pok 44 0 Try.func10 (by kernel_rfl) rfl rfl rfl rfl ?_
    refine SWp.go pok (by kernel_rfl) ?_
    refine brP_split (fun h => ?_) (fun h => ?_)
    · exact ⟨-1, rfl, rfl, by omega, by omega, fun h => by omega⟩
    have hm : x.mon.length ≤ 200 := by simp at h; omega
    refine brP_split (fun h => ?_) (fun h => ?_)
    · exact ⟨-1, rfl, rfl, by omega, by omega, fun h => by omega⟩
    have hnm : x.name.length ≤ 200 := by simp at h; omega
    refine brP_split (fun h => ?_) (fun h => ?_)
    · exact ⟨-1, rfl, rfl, by omega, by omega, fun h => by omega⟩
    have hk : (x.kids.length : Int) ≤ n := by simp at h; omega
    have hsub : IntKind.i64.wrap (n - 1) = n - 1 := wrap_in (by unfold R64; omega)
    refine SWp.loop (fun q : Nat × Int => q.1 ≤ x.kids.length ∧ -1 ≤ q.2 ∧ q.2 ≤ n - 1 ∧ (0 ≤ q.2 → ((Ex.pres (x.kids.take q.1)).length : Int) = n - 1 - q.2 ∧ ∀ y ∈ Ex.pres (x.kids.take q.1), y.kids.length ≤ 1000 ∧ y.mon.length ≤ 1000 ∧ y.name.length ≤ 1000))
      (fun q => ([(1, iv q.2), (2, .ptr 0 0), (5, iv q.1)], [.box [iv x.op, sv' x.mon, sv' x.name, iv x.n, .d (.sl (x.kids.map Ex.e)), iv x.pl]])) (fun q => x.kids.length - q.1) (0, n - 1)
      ⟨Nat.zero_le _, by show -1 ≤ n - 1; omega, Int.le_refl _, fun _ => ⟨by simp [Ex.pres], by simp [Ex.pres]⟩⟩ (Le.same ⟨sint hsub, rfl, rfl, trivial⟩) (fun q hq => ?_)
    obtain ⟨k, m⟩ := q
    obtain ⟨hj, hm0, hm1, hX⟩ := hq
    simp only at hj hm0 hm1 hX
    have fin : (k = x.kids.length ∨ m < 0) → 0 ≤ m → (x.pre.length : Int) = n - m ∧ ∀ y ∈ x.pre, y.kids.length ≤ 1000 ∧ y.mon.length ≤ 1000 ∧ y.name.length ≤ 1000 := fun hor hm => by
      have hk' : k = x.kids.length := by omega
      obtain ⟨h1, h2⟩ := hX hm
      rw [hk', List.take_length] at h1 h2
      rw [x.pre_eq]
      refine ⟨by rw [List.length_cons]; omega, fun y hy => ?_⟩
      rcases List.mem_cons.1 hy with e | e
      · subst e; exact ⟨by omega, by omega, by omega⟩
      · exact h2 y e
    refine SWp.go pok (by kernel_rfl) ?_
    refine brP_split (fun h => ?_) (fun h => ?_)
    · have hlt : k < x.kids.length := by simpa using h
      have hlk := Ex.pre_kid (List.getElem_mem hlt)
      have hsn := Ex.pres_snoc hlt
      refine brP_split (fun h2 => ?_) (fun h2 => ?_)
      · have h2 : 0 ≤ m := by simpa using h2
        refine PIdx.ex hlt ?_
        refine PCalls.mono (ih x.kids[k] m (by omega) hm0 (by omega)) ?_
        rintro r h' ⟨z, rfl, rfl, z0, z1, zX⟩
        exact ⟨(k + 1, z), ⟨hlt, z0, by show z ≤ n - 1; omega, fun hz => by
          obtain ⟨a1, a2⟩ := hX h2
          obtain ⟨b1, b2⟩ := zX hz
          rw [hsn]
          refine ⟨by rw [List.length_append]; show _ = n - 1 - z; omega, fun y hy => ?_⟩
          rcases List.mem_append.1 hy with e | e
          · exact a2 y e
          · exact b2 y e⟩, by show x.kids.length - (k + 1) < x.kids.length - k; omega, Le.same ⟨rfl, rfl, sint (wrap_nat k (by omega)), trivial⟩⟩
      · have h2 : m < 0 := by simpa using h2
        exact ⟨m, rfl, rfl, hm0, by omega, fun hz => by omega⟩
    · have hk' : k = x.kids.length := by simp at h; omega
      exact ⟨m, rfl, rfl, hm0, by omega, fun hz => fin (.inl hk') hz⟩
theorem rest_c (N : Nat) : ∀ (l : List St) (n : Int), SizeOf.sizeOf l ≤ N → -1 ≤ n → n ≤ 1000 → PCalls Try.prog 33 [.d (.sl (l.map St.c)), iv n] [] (Left n fun _ => True) := by
  induction N with
  | zero => intro l n h; cases l <;> simp at h
  | succ N ih =>
    intro l n hN hn0 hn1
    refine fn_sem pok 80 0 Try.func33 (by kernel_rfl) rfl rfl rfl rfl ?_
    refine SWp.go pok (by kernel_rfl) ?_
    refine brP_split (fun h => ?_) (fun h => ?_)
    · exact ⟨-1, rfl, rfl, by omega, by omega, trivial⟩
    have hl : (l.length : Int) ≤ n := by simp at h; omega
    refine SWp.loop (fun q : Nat × Int => q.1 ≤ l.length ∧ -1 ≤ q.2 ∧ q.2 ≤ n) (fun q => ([(0, .d (.sl (l.map St.c))), (1, iv q.2), (5, iv q.1)], [])) (fun q => l.length - q.1) (0, n) ⟨Nat.zero_le _, hn0, Int.le_refl _⟩ (Le.same ⟨rfl, rfl, rfl, trivial⟩) (fun q hq => ?_)
    obtain ⟨i, m⟩ := q
    obtain ⟨hi, hm0, hm1⟩ := hq
    simp only at hi hm0 hm1
    refine SWp.go pok (by kernel_rfl) ?_
    refine brP_split (fun h => ?_) (fun h => ?_)
    rotate_left
    · exact ⟨m, rfl, rfl, hm0, hm1, trivial⟩
    have hlt : i < l.length := by simpa using h
    refine brP_split (fun h2 => ?_) (fun h2 => ?_)
    rotate_left
    · exact ⟨m, rfl, rfl, hm0, hm1, trivial⟩
    have h2 : 0 ≤ m := by simpa using h2
    refine PIdx.st hlt ?_
    refine brP_split (fun h => ?_) (fun h => ?_)
    · exact ⟨-1, rfl, rfl, by omega, by omega, trivial⟩
    refine PIdx.st hlt ?_
    refine brP_split (fun h => ?_) (fun h => ?_)
    · exact ⟨-1, rfl, rfl, by omega, by omega, trivial⟩
    refine PIdx.st hlt ?_
    refine brP_split (fun h => ?_) (fun h => ?_)
    · exact ⟨-1, rfl, rfl, by omega, by omega, trivial⟩
    have hbl : l[i].blocks.length ≤ 40 := by simp at h; omega
    refine PIdx.st hlt ?_
    have hsub : IntKind.i64.wrap (m - 1) = m - 1 := wrap_in (by unfold R64; omega)
    have hc := restExpr_c _ l[i].e (m - 1) (Nat.le_refl _) (by omega) (by omega)
    rw [← hsub] at hc
    refine PCalls.mono hc ?_
    rintro r h' ⟨z, rfl, rfl, z0, z1, _⟩
    rw [hsub] at z1
    refine SWp.loop (fun q : Nat × Int => q.1 ≤ l[i].blocks.length ∧ -1 ≤ q.2 ∧ q.2 ≤ n) (fun q => ([(0, .d (.sl (l.map St.c))), (1, iv q.2), (5, iv i), (6, iv q.1)], [])) (fun q => l[i].blocks.length - q.1) (0, z) ⟨Nat.zero_le _, z0, by show z ≤ n; omega⟩ (Le.same ⟨rfl, rfl, rfl, rfl, trivial⟩) (fun q hq => ?_)
    obtain ⟨k, u⟩ := q
    obtain ⟨hk, hu0, hu1⟩ := hq
    simp only at hk hu0 hu1
    refine SWp.go pok (by kernel_rfl) ?_
    refine PIdx.st hlt ?_
    refine brP_split (fun h => ?_) (fun h => ?_)
    rotate_left
    · exact ⟨(i + 1, u), ⟨hlt, hu0, hu1⟩, by show l.length - (i + 1) < l.length - i; omega, Le.same ⟨rfl, rfl, sint (wrap_nat i (by omega)), trivial⟩⟩
    have hkl : k < l[i].blocks.length := by simpa using h
    refine brP_split (fun h3 => ?_) (fun h3 => ?_)
    rotate_left
    · exact ⟨(i + 1, u), ⟨hlt, hu0, hu1⟩, by show l.length - (i + 1) < l.length - i; omega, Le.same ⟨rfl, rfl, sint (wrap_nat i (by omega)), trivial⟩⟩
    have h3 : 0 ≤ u := by simpa using h3
    refine PIdx.st hlt ?_
    refine PIdx.map (get_at hkl) ?_
    have hsub : IntKind.i64.wrap (u - 1) = u - 1 := wrap_in (by unfold R64; omega)
    have hsz := St.blocks_size hlt hkl
    have hc := ih l[i].blocks[k] (u - 1) (by omega) (by omega) (by omega)
    rw [← hsub] at hc
    refine PCalls.mono hc ?_
    rintro r h' ⟨z, rfl, rfl, z0, z1, _⟩
    rw [hsub] at z1
    exact ⟨(k + 1, z), ⟨hkl, z0, by show z ≤ n; omega⟩, by show l[i].blocks.length - (k + 1) < l[i].blocks.length - k; omega, Le.same ⟨rfl, rfl, rfl, sint (wrap_nat k (by omega)), trivial⟩⟩
def SmallP (p : Pg) : Prop := p.mons.length ≤ 20 ∧ ∀ m ∈ p.mons, m.vars.length ≤ 40
theorem SmallP.fits {p : Pg} (h : SmallP p) : p.fits := by
  have key : ∀ l : List Mo, (∀ m ∈ l, m.vars.length ≤ 40) → nVars l ≤ 40 * l.length := by
    intro l
    induction l with
    | nil => intro _; simp [nVars]
    | cons m r ih =>
      intro h
      have h1 := h m List.mem_cons_self
      have h2 := ih fun x hx => h x (List.mem_cons_of_mem _ hx)
      unfold nVars at h2 ⊢
      simp only [List.map_cons, List.sum_cons, List.length_cons]
      omega
  have := key p.mons h.2
  have := h.1
  exact ⟨by omega, by omega⟩
def Small (p : Pg) : V → List Ob → Prop := fun r h' => ∃ b : Bool, r = .d (.bool b) ∧ h' = [] ∧ (b = true → SmallP p)
theorem Small.no (p : Pg) : Small p (.d (.bool false)) [] := ⟨false, rfl, rfl, fun h => by cases h⟩
theorem small02_c (p : Pg) (n : Int) (hn0 : -1 ≤ n) (hn1 : n ≤ 1000) : PCalls Try.prog 9 [p.v, iv n] [] (Small p) := by
  refine fn_sem pok 113 0 Try.func9 (by kernel_rfl) rfl rfl rfl rfl ?_
  refine SWp.go pok (by kernel_rfl) ?_
  refine brP_split (fun h => ?_) (fun h => ?_)
  · exact Small.no p
  have hml : p.mons.length ≤ 20 := by simp at h; omega
  refine brP_split (fun h => ?_) (fun h => ?_)
  · exact Small.no p
  have hrl : p.roles.length ≤ 20 := by simp at h; omega
  refine SWp.loop (fun q : Nat × Int => q.1 ≤ p.mons.length ∧ -1 ≤ q.2 ∧ q.2 ≤ n ∧ ∀ j (hj : j < p.mons.length), j < q.1 → p.mons[j].vars.length ≤ 40)
    (fun q => ([(2, .ptr 0 0), (5, iv q.2), (6, iv q.1)], [.box [.d (.sl (p.mons.map Mo.c)), .d (.sl (p.roles.map Ro.c))]])) (fun q => p.mons.length - q.1) (0, n) ⟨Nat.zero_le _, hn0, Int.le_refl _, fun j _ h => by omega⟩ (Le.same ⟨rfl, rfl, rfl, trivial⟩) (fun q hq => ?_)
  obtain ⟨i, m⟩ := q
  obtain ⟨hi, hm0, hm1, hX⟩ := hq
  simp only at hi hm0 hm1 hX
  refine SWp.go pok (by kernel_rfl) ?_
  refine brP_split (fun h => ?_) (fun h => ?_)
  · have hlt : i < p.mons.length := by simpa using h
    refine PIdx.map (get_at hlt) ?_
    refine brP_split (fun h => ?_) (fun h => ?_)
    · exact Small.no p
    have hvl : p.mons[i].vars.length ≤ 40 := by simp at h; omega
    refine brP_split (fun h => ?_) (fun h => ?_)
    · exact Small.no p
    have hme : p.mons[i].methods.length ≤ 40 := by simp at h; omega
    refine brP_split (fun h => ?_) (fun h => ?_)
    · exact Small.no p
    refine SWp.loop (fun k : Nat => k ≤ p.mons[i].vars.length)
      (fun k => ([(2, .ptr 0 0), (5, iv m), (6, iv i), (7, .ptr 1 0), (8, iv k)], [.box [.d (.sl (p.mons.map Mo.c)), .d (.sl (p.roles.map Ro.c))], .box [sv' p.mons[i].name, .d (.sl (p.mons[i].vars.map Vr.c)), .d (.sl (p.mons[i].methods.map Mt.c)), iv p.mons[i].pl]]))
      (fun k => p.mons[i].vars.length - k) 0 (Nat.zero_le _) (Le.same ⟨rfl, rfl, rfl, rfl, rfl, trivial⟩) (fun k hk => ?_)
    refine SWp.go pok (by kernel_rfl) ?_
    refine brP_split (fun h => ?_) (fun h => ?_)
    · have hkl : k < p.mons[i].vars.length := by simpa using h
      refine PIdx.map (get_at hkl) ?_
      refine brP_split (fun h => ?_) (fun h => ?_)
      · exact Small.no p
      exact ⟨k + 1, hkl, by omega, Le.same ⟨rfl, rfl, rfl, rfl, sint (wrap_nat k (by omega)), trivial⟩⟩
    refine SWp.loop (fun q : Nat × Int => q.1 ≤ p.mons[i].methods.length ∧ -1 ≤ q.2 ∧ q.2 ≤ n)
      (fun q => ([(2, .ptr 0 0), (5, iv q.2), (6, iv i), (7, .ptr 1 0), (9, iv q.1)], [.box [.d (.sl (p.mons.map Mo.c)), .d (.sl (p.roles.map Ro.c))], .box [sv' p.mons[i].name, .d (.sl (p.mons[i].vars.map Vr.c)), .d (.sl (p.mons[i].methods.map Mt.c)), iv p.mons[i].pl]]))
      (fun q => p.mons[i].methods.length - q.1) (0, m) ⟨Nat.zero_le _, hm0, hm1⟩ (Le.same ⟨rfl, rfl, rfl, rfl, rfl, trivial⟩) (fun q hq => ?_)
    obtain ⟨k, u⟩ := q
    obtain ⟨hk, hu0, hu1⟩ := hq
    simp only at hk hu0 hu1
    refine SWp.go pok (by kernel_rfl) ?_
    refine brP_split (fun h => ?_) (fun h => ?_)
    · have hkl : k < p.mons[i].methods.length := by simpa using h
      refine PIdx.map (get_at hkl) ?_
      refine brP_split (fun h => ?_) (fun h => ?_)
      · exact Small.no p
      refine PIdx.map (get_at hkl) ?_
      refine PCalls.mono (rest_c _ p.mons[i].methods[k].body u (Nat.le_refl _) hu0 (by omega)) ?_
      rintro r h' ⟨z, rfl, rfl, z0, z1, _⟩
      exact ⟨(k + 1, z), ⟨hkl, z0, by show z ≤ n; omega⟩, by show p.mons[i].methods.length - (k + 1) < p.mons[i].methods.length - k; omega, Le.same ⟨rfl, rfl, rfl, rfl, sint (wrap_nat k (by omega)), trivial⟩⟩
    · exact ⟨(i + 1, u), ⟨hlt, hu0, hu1, fun j hj hji => by
        rcases Nat.lt_or_ge j i with h5 | h5
        · exact hX j hj h5
        · have : j = i := by have hji : j < i + 1 := hji; omega
          subst this; exact hvl⟩, by show p.mons.length - (i + 1) < p.mons.length - i; omega, .inr ⟨[0], ⟨rfl, rfl⟩, rfl, rfl, rfl, sint (wrap_nat i (by omega)), trivial⟩⟩
  · have hi' : i = p.mons.length := by simp at h; omega
    have hsm : SmallP p := ⟨hml, fun mo hmo => by
      obtain ⟨j, hj, rfl⟩ := List.getElem_of_mem hmo
      exact hX j hj (by omega)⟩
    refine SWp.loop (fun q : Nat × Int => q.1 ≤ p.roles.length ∧ -1 ≤ q.2 ∧ q.2 ≤ n)
      (fun q => ([(2, .ptr 0 0), (5, iv q.2), (10, iv q.1)], [.box [.d (.sl (p.mons.map Mo.c)), .d (.sl (p.roles.map Ro.c))]])) (fun q => p.roles.length - q.1) (0, m) ⟨Nat.zero_le _, hm0, hm1⟩ (Le.same ⟨rfl, rfl, rfl, trivial⟩) (fun q hq => ?_)
    obtain ⟨k, u⟩ := q
    obtain ⟨hk, hu0, hu1⟩ := hq
    simp only at hk hu0 hu1
    refine SWp.go pok (by kernel_rfl) ?_
    refine brP_split (fun h => ?_) (fun h => ?_)
    · have hkl : k < p.roles.length := by simpa using h
      refine PIdx.map (get_at hkl) ?_
      refine brP_split (fun h => ?_) (fun h => ?_)
      · exact Small.no p
      refine PIdx.map (get_at hkl) ?_
      refine PCalls.mono (rest_c _ p.roles[k].body u (Nat.le_refl _) hu0 (by omega)) ?_
      rintro r h' ⟨z, rfl, rfl, z0, z1, _⟩
      exact ⟨(k + 1, z), ⟨hkl, z0, by show z ≤ n; omega⟩, by show p.roles.length - (k + 1) < p.roles.length - k; omega, Le.same ⟨rfl, rfl, sint (wrap_nat k (by omega)), trivial⟩⟩
    · refine brP_split (fun h => ?_) (fun h => ?_)
      · exact ⟨true, rfl, rfl, fun _ => hsm⟩
      · exact Small.no p
end Go.Proofs.Ytlafnhpmhflnaaa.Q

namespace Go.Proofs.Ytlafnhpmhflnaaa.Q
open Go.RowKit
theorem rd_str (fuel : Nat) : RdD Try.prog fuel 9 (fun r => ∃ s : List UInt8, s.length ≤ maxLen ∧ r = [.str s]) := rdD_str (by kernel_rfl) fuel
theorem rd_bool (fuel : Nat) : RdD Try.prog fuel 4 (fun r => ∃ b, r = [.bool b]) := rdD_bool (by kernel_rfl) fuel
theorem rd_Ex (fuel : Nat) : RdD Try.prog fuel 28 (fun r => ∃ x : Ex, Ex.nums x ∧ r = x.e) := by
  letI : Amb := ambD
  induction fuel using Nat.strongRecOn with
  | _ fuel ih =>
    refine (rdD_struct (fs := [(3, 0), (9, 1), (9, 2), (2, 3), (26, 4), (3, 5)]) (by kernel_rfl) (sz := 1 + (1 + (1 + (1 + (1 + 1))))) (by kernel_rfl) fuel fun m hm =>
      frD_cons (by kernel_rfl) (rd_int m) (frD_cons (by kernel_rfl) (rd_str m) (frD_cons (by kernel_rfl) (rd_str m) (frD_cons (by kernel_rfl) (rd_int64 m)
        (frD_cons (by kernel_rfl) (rdD_slice (sz := 6) (e := 28) (by kernel_rfl) (by kernel_rfl) (by decide) m fun m' hm' => ih m' (by omega)) (frD_last (by kernel_rfl) (rd_int m))))))).mono ?_
    rintro r ⟨_, _, ⟨op, h1, rfl⟩, ⟨_, _, ⟨mon, h2, rfl⟩, ⟨_, _, ⟨name, h3, rfl⟩, ⟨_, _, ⟨n, h4, rfl⟩, ⟨_, _, ⟨rows, h5, h6, rfl⟩, ⟨pl, h7, rfl⟩, rfl⟩, rfl⟩, rfl⟩, rfl⟩, rfl⟩
    obtain ⟨l, rfl, hl⟩ := rows_map h5
    refine ⟨⟨op, mon, name, n, l, pl⟩, fun y hy => ?_, by rw [Ex.e_eq]; rfl⟩
    rw [Ex.pre_eq] at hy
    rcases List.mem_cons.1 hy with e | e
    · subst e; exact h4
    · rw [Ex.pres_map] at e
      obtain ⟨z, hz, hyz⟩ := List.mem_flatMap.1 e
      exact hl z hz y hyz
theorem rd_St (fuel : Nat) : RdD Try.prog fuel 96 (fun r => ∃ x : St, True ∧ r = x.c) := by
  induction fuel using Nat.strongRecOn with
  | _ fuel ih =>
    refine (rdD_struct (fs := [(3, 0), (9, 1), (9, 2), (2, 3), (28, 4), (94, 10), (3, 11)]) (by kernel_rfl) (sz := 1 + (1 + (1 + (1 + (6 + (1 + 1)))))) (by kernel_rfl) fuel fun m hm =>
      frD_cons (by kernel_rfl) (rd_int m) (frD_cons (by kernel_rfl) (rd_str m) (frD_cons (by kernel_rfl) (rd_str m) (frD_cons (by kernel_rfl) (rd_int64 m) (frD_cons (by kernel_rfl) (rd_Ex m)
        (frD_cons (by kernel_rfl) (rdD_slice (sz := 1) (e := 64) (by kernel_rfl) (by kernel_rfl) (by decide) m fun m' hm' => rdD_slice (sz := 12) (e := 96) (by kernel_rfl) (by kernel_rfl) (by decide) m' fun m'' hm'' => ih m'' (by omega)) (frD_last (by kernel_rfl) (rd_int m)))))))).mono ?_
    rintro r ⟨_, _, ⟨kind, h1, rfl⟩, ⟨_, _, ⟨mon, h2, rfl⟩, ⟨_, _, ⟨name, h3, rfl⟩, ⟨_, _, ⟨n, h4, rfl⟩, ⟨_, _, ⟨e, h5, rfl⟩, ⟨_, _, ⟨rows, h6, h7, rfl⟩, ⟨pl, h8, rfl⟩, rfl⟩, rfl⟩, rfl⟩, rfl⟩, rfl⟩, rfl⟩
    obtain ⟨bs, rfl, _⟩ := rows_map (f := blk) (p := fun _ => True) (rows := rows) fun q hq => by
      obtain ⟨qs, k1, k2, rfl⟩ := h6 q hq
      obtain ⟨b, rfl, _⟩ := rows_map k1
      exact ⟨b, trivial, rfl⟩
    exact ⟨⟨kind, mon, name, n, e, bs, pl⟩, trivial, by rw [St.c_eq]; simp⟩
theorem rd_body (fuel : Nat) : RdD Try.prog fuel 64 (fun r => ∃ l : List St, r = [.sl (l.map St.c)]) :=
  (rdD_slice (sz := 12) (e := 96) (by kernel_rfl) (by kernel_rfl) (by decide) fuel fun m _ => rd_St m).mono fun r ⟨rows, h1, h2, e⟩ => by
    obtain ⟨l, rfl, h3⟩ := rows_map h1
    exact ⟨l, e⟩
theorem rd_Vr (fuel : Nat) : RdD Try.prog fuel 63 (fun r => ∃ x : Vr, True ∧ r = x.c) := by
  refine (rdD_struct (fs := [(9, 0), (3, 1), (2, 2), (2, 3), (2, 4), (3, 5)]) (by kernel_rfl) (sz := 1 + (1 + (1 + (1 + (1 + 1))))) (by kernel_rfl) fuel fun m hm =>
    frD_cons (by kernel_rfl) (rd_str m) (frD_cons (by kernel_rfl) (rd_int m) (frD_cons (by kernel_rfl) (rd_int64 m) (frD_cons (by kernel_rfl) (rd_int64 m) (frD_cons (by kernel_rfl) (rd_int64 m) (frD_last (by kernel_rfl) (rd_int m))))))).mono ?_
  rintro r ⟨_, _, ⟨a, _, rfl⟩, ⟨_, _, ⟨b, _, rfl⟩, ⟨_, _, ⟨c, _, rfl⟩, ⟨_, _, ⟨d, _, rfl⟩, ⟨_, _, ⟨e, _, rfl⟩, ⟨f, _, rfl⟩, rfl⟩, rfl⟩, rfl⟩, rfl⟩, rfl⟩
  exact ⟨⟨a, b, c, d, e, f⟩, trivial, rfl⟩
theorem rd_Mt (fuel : Nat) : RdD Try.prog fuel 66 (fun r => ∃ x : Mt, True ∧ r = x.c) := by
  refine (rdD_struct (fs := [(9, 0), (64, 1), (3, 2)]) (by kernel_rfl) (sz := 1 + (1 + 1)) (by kernel_rfl) fuel fun m hm =>
    frD_cons (by kernel_rfl) (rd_str m) (frD_cons (by kernel_rfl) (rd_body m) (frD_last (by kernel_rfl) (rd_int m)))).mono ?_
  rintro r ⟨_, _, ⟨a, _, rfl⟩, ⟨_, _, ⟨b, rfl⟩, ⟨c, _, rfl⟩, rfl⟩, rfl⟩
  exact ⟨⟨a, b, c⟩, trivial, rfl⟩
theorem rd_Mo (fuel : Nat) : RdD Try.prog fuel 61 (fun r => ∃ x : Mo, True ∧ r = x.c) := by
  refine (rdD_struct (fs := [(9, 0), (58, 1), (59, 2), (3, 3)]) (by kernel_rfl) (sz := 1 + (1 + (1 + 1))) (by kernel_rfl) fuel fun m hm =>
    frD_cons (by kernel_rfl) (rd_str m) (frD_cons (by kernel_rfl) (rdD_slice (sz := 6) (e := 63) (by kernel_rfl) (by kernel_rfl) (by decide) m fun m' _ => rd_Vr m') (frD_cons (by kernel_rfl) (rdD_slice (sz := 3) (e := 66) (by kernel_rfl) (by kernel_rfl) (by decide) m fun m' _ => rd_Mt m') (frD_last (by kernel_rfl) (rd_int m))))).mono ?_
  rintro r ⟨_, _, ⟨a, _, rfl⟩, ⟨_, _, ⟨vs, k1, _, rfl⟩, ⟨_, _, ⟨ms, k2, _, rfl⟩, ⟨c, _, rfl⟩, rfl⟩, rfl⟩, rfl⟩
  obtain ⟨l1, rfl, _⟩ := rows_map k1
  obtain ⟨l2, rfl, _⟩ := rows_map k2
  exact ⟨⟨a, l1, l2, c⟩, trivial, rfl⟩
theorem rd_Ro (fuel : Nat) : RdD Try.prog fuel 69 (fun r => ∃ x : Ro, True ∧ r = x.c) := by
  refine (rdD_struct (fs := [(9, 0), (4, 1), (2, 2), (64, 3), (3, 4)]) (by kernel_rfl) (sz := 1 + (1 + (1 + (1 + 1)))) (by kernel_rfl) fuel fun m hm =>
    frD_cons (by kernel_rfl) (rd_str m) (frD_cons (by kernel_rfl) (rd_bool m) (frD_cons (by kernel_rfl) (rd_int64 m) (frD_cons (by kernel_rfl) (rd_body m) (frD_last (by kernel_rfl) (rd_int m)))))).mono ?_
  rintro r ⟨_, _, ⟨a, _, rfl⟩, ⟨_, _, ⟨b, rfl⟩, ⟨_, _, ⟨c, _, rfl⟩, ⟨_, _, ⟨d, rfl⟩, ⟨e, _, rfl⟩, rfl⟩, rfl⟩, rfl⟩, rfl⟩
  exact ⟨⟨a, b, c, d, e⟩, trivial, rfl⟩
theorem rd_Pg (fuel : Nat) : RdD Try.prog fuel 25 (fun r => ∃ x : Pg, r = [.sl (x.mons.map Mo.c), .sl (x.roles.map Ro.c)]) := by
  refine (rdD_struct (fs := [(22, 0), (23, 1)]) (by kernel_rfl) (sz := 1 + 1) (by kernel_rfl) fuel fun m hm =>
    frD_cons (by kernel_rfl) (rdD_slice (sz := 4) (e := 61) (by kernel_rfl) (by kernel_rfl) (by decide) m fun m' _ => rd_Mo m') (frD_last (by kernel_rfl) (rdD_slice (sz := 5) (e := 69) (by kernel_rfl) (by kernel_rfl) (by decide) m fun m' _ => rd_Ro m'))).mono ?_
  rintro r ⟨_, _, ⟨vs, k1, _, rfl⟩, ⟨ms, k2, _, rfl⟩, rfl⟩
  obtain ⟨l1, rfl, _⟩ := rows_map k1
  obtain ⟨l2, rfl, _⟩ := rows_map k2
  exact ⟨⟨l1, l2⟩, rfl⟩
section
variable {H : Type} {enc : TypeId × Value → H} {d : DataW H} {p : List MemPlace} {base : Nat}
theorem read_Pg (W : World) (v : Value) (hv : Value.okWide Try.prog W .any base 25 v) (h : DataW.Trod enc Try.prog W 0 (fun _ => true) true 25 v d p) : ∃ x : Pg, True ∧ x.v.rep (allG W) (fun _ _ => none) v := by
  obtain ⟨r, ⟨x, rfl⟩, hr⟩ := read_agg (fs := [(22, 0), (23, 1)]) (by kernel_rfl) rd_Pg hv h
  exact ⟨x, trivial, hr⟩
theorem read_Ex (W : World) (v : Value) (hv : Value.okWide Try.prog W .any base 28 v) (h : DataW.Trod enc Try.prog W 0 (fun _ => true) true 28 v d p) : ∃ x : Ex, x.nums ∧ x.v.rep (allG W) (fun _ _ => none) v := by
  obtain ⟨r, ⟨x, hx, rfl⟩, hr⟩ := read_agg (fs := [(3, 0), (9, 1), (9, 2), (2, 3), (26, 4), (3, 5)]) (by kernel_rfl) rd_Ex hv h
  refine ⟨x, hx, ?_⟩
  rw [@Ex.e_row ambD] at hr
  exact hr
end
end Go.Proofs.Ytlafnhpmhflnaaa.Q

namespace Go.Proofs.Ytlafnhpmhflnaaa.Q
open Go.RowKit
variable [Amb]
theorem sumB_len (op : Int) (a : Ln) (b : Ln × Bool) : (sumB op a b).1.l.length ≤ 40 := by
  unfold sumB
  split
  · split
    · exact addL_len _ _
    · exact Nat.zero_le _
  split
  · split
    · split
      · exact addL_len _ _
      · exact Nat.zero_le _
    · exact Nat.zero_le _
  · exact Nat.zero_le _
theorem sum_len (p : Pg) (N : Nat) : ∀ (x : Ex), x.pre.length ≤ N → (x.sum p).1.l.length ≤ 40 := by
  induction N with
  | zero => intro x h; have := x.pre_pos; omega
  | succ N ih =>
    intro x hN
    have hm : ∀ q ∈ x.kids.map (Ex.sum p), q.1.l.length ≤ 40 := fun q hq => by
      obtain ⟨y, hy, rfl⟩ := List.mem_map.1 hq
      exact ih y (by have := Ex.pre_kid hy; omega)
    rw [x.sum_eq]
    generalize x.kids.map (Ex.sum p) = l at hm
    unfold sumK
    split
    · exact Nat.zero_le _
    split
    · exact (by decide : 1 ≤ 40)
    split
    · exact Nat.zero_le _
    · rename_i a hq
      have ha := hm a (List.mem_of_getElem? hq)
      unfold sumA
      split
      · split
        · have := scaleS_len a.1 (-1); omega
        split
        · have := scaleS_len a.1 x.n; omega
        split
        · exact Nat.zero_le _
        · exact sumB_len _ _ _
      · exact Nat.zero_le _
theorem linOfS_len (p : Pg) (x : Ex) : (linOfS p x).1.l.length ≤ 40 := by
  unfold linOfS
  split
  · exact sum_len p _ x (Nat.le_refl _)
  · exact Nat.zero_le _
theorem linOf_t (p : Pg) (x : Ex) (_ : True) (hn : x.nums) : PFun Try.prog 3 [p.v, x.v] [] (.d (.bool true)) [] := by
  refine fn_sem pok 41 0 Try.func3 (by kernel_rfl) rfl rfl rfl rfl ?_
  refine SWp.go pok (by kernel_rfl) ?_
  refine PCalls.mono (small02_c p 200 (by decide) (by decide)) ?_
  rintro r h' ⟨b, rfl, rfl, hb⟩
  refine brP_split (fun h => ?_) (fun h => ?_)
  · exact PFun.call live_c (fin1 rfl)
  have hp : p.fits := (hb (by simpa using h)).fits
  refine PCalls.mono (restExpr_c _ x 200 (Nat.le_refl _) (by decide) (by decide)) ?_
  rintro r h' ⟨z, rfl, rfl, z0, z1, zX⟩
  refine brP_split (fun h => ?_) (fun h => ?_)
  · exact PFun.call live_c (fin1 rfl)
  obtain ⟨l1, l2⟩ := zX (by simpa using h)
  have hx : x.fits := ⟨by omega, fun y hy => by have := l2 y hy; omega⟩
  have hlen := linOfS_len p x
  have hsame := Same_c (linOfS p x).1 (linOfS p x).1 (by omega)
  rw [sameS_refl] at hsame
  refine PFun.call (linOf_c p x hp hx hn) ?_
  refine PFun.call (refOf_c p x hp hx hn) ?_
  refine PFun.call hsame ?_
  refine brP_true (by simp) ?_
  refine PFun.call live_c ?_
  exact fin1 rfl
end Go.Proofs.Ytlafnhpmhflnaaa.Q
