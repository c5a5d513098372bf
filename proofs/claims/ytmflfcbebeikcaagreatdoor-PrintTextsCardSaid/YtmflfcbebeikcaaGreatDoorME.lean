/- Names, expressions and their shape; sizes; how expressions are read. No condition. -/
import Derived.Test.YtmflfcbebeikcaaGreatDoorMK
import Derived.Test.YtmflfcbebeikcaaGreatDoorMC
import Derived.Test.YtmflfcbebeikcaaGreatDoorMB
import Derived.Test.YtmflfcbebeikcaaGreatDoorMR
set_option linter.unusedVariables false
set_option linter.unusedSectionVars false
set_option linter.unnecessarySimpa false
set_option linter.unusedSimpArgs false
set_option maxRecDepth 100000
set_option maxHeartbeats 4000000
namespace Go.Proofs.YtmflfcbebeikcaaGreatDoor.Q
open Go.RowKit
variable [Amb]
def isName (s : Str) : Bool := !(s == []) && decide (s.length ≤ 32) && (classS ((s.headD 0).toNat : Int) == 3) && !isWord s && (spanF inNameS 0 s == s.length)
theorem lexName_c (s : Str) (hs : s.length < 1073741824) : PFun Tryz.prog 74 [sv' s] [] (.d (.bool (isName s))) [] := by
  refine fn_sem pok 25 0 Tryz.func74 (by kernel_rfl) rfl rfl rfl rfl ?_
  refine SWp.go pok (by kernel_rfl) ?_
  refine brP_split (fun h => ?_) (fun h => ?_)
  · exact fin1 (dbool (by simp only [isName, h]; rfl))
  · have hne : s ≠ [] := by simpa using h
    refine brP_split (fun h1 => ?_) (fun h1 => ?_)
    · have : ¬ s.length ≤ 32 := by simp at h1; omega
      exact fin1 (dbool (by simp [isName, this]))
    · have h32 : s.length ≤ 32 := by simp at h1; omega
      have hh : s[0]? = some (s.headD 0) := by cases s with | nil => exact absurd rfl hne | cons b r => rfl
      refine PIdx.at hh ?_
      refine PFun.call (classOf_c _) ?_
      refine brP_split (fun h2 => ?_) (fun h2 => ?_)
      · have h2 : (classS ((s.headD 0).toNat : Int) == 3) = false := by simpa using h2
        exact fin1 (dbool (by simp only [isName, h2]; simp))
      · have h2 : (classS ((s.headD 0).toNat : Int) == 3) = true := by simpa using h2
        refine PFun.call (word_c s) ?_
        refine brP_split (fun h3 => ?_) (fun h3 => ?_)
        · exact fin1 (dbool (by simp [isName, h3]))
        · refine PFun.call (span_c _ inNameS inName_c s 0 (Nat.zero_le _) hs) ?_
          refine brP_split (fun h4 => ?_) (fun h4 => ?_)
          · have e4 : (spanF inNameS 0 s == s.length) = true := by simp at h4 ⊢; omega
            exact fin1 (dbool (by simp only [isName, h2, h3, e4, decide_eq_true h32, beq_eq_false_iff_ne.2 hne]; rfl))
          · have e4 : (spanF inNameS 0 s == s.length) = false := by simp at h4 ⊢; omega
            exact fin1 (dbool (by simp only [isName, e4, Bool.and_false]))
end Go.Proofs.YtmflfcbebeikcaaGreatDoor.Q

namespace Go.Proofs.YtmflfcbebeikcaaGreatDoor.Q
open Go.RowKit
variable [Amb]
theorem class_letter (c : Int) : (classS c == 3) = ((decide (97 ≤ c) && decide (c ≤ 122)) || (decide (65 ≤ c) && decide (c ≤ 90))) := by
  have e : classS c = 3 ↔ (97 ≤ c ∧ c ≤ 122) ∨ (65 ≤ c ∧ c ≤ 90) := by
    unfold classS
    repeat' split
    all_goals omega
  rw [Bool.eq_iff_iff]
  simpa using e
theorem class_digit (c : Int) : (classS c == 4) = (decide (48 ≤ c) && decide (c ≤ 57)) := by
  have e : classS c = 4 ↔ (48 ≤ c ∧ c ≤ 57) := by
    unfold classS
    repeat' split
    all_goals omega
  rw [Bool.eq_iff_iff]
  simpa using e
theorem refLetter_c (c : Int) : PFun Tryz.prog 89 [.d (.int .u8 c)] [] (.d (.bool (classS c == 3))) [] := by
  rw [class_letter]
  refine fn_sem pok 17 0 Tryz.func89 (by kernel_rfl) rfl rfl rfl rfl ?_
  refine SWp.go pok (by kernel_rfl) ?_
  repeat' (refine brP_split (fun h => ?_) (fun h => ?_))
  all_goals
    refine fin1 (dbool ?_)
    simp only [ge_iff_le, decide_eq_true_eq, decide_eq_false_iff_not] at *
    simp [*]
    try omega
theorem refDigit_c (c : Int) : PFun Tryz.prog 90 [.d (.int .u8 c)] [] (.d (.bool (classS c == 4))) [] := by
  rw [class_digit]
  refine fn_sem pok 9 0 Tryz.func90 (by kernel_rfl) rfl rfl rfl rfl ?_
  refine SWp.go pok (by kernel_rfl) ?_
  repeat' (refine brP_split (fun h => ?_) (fun h => ?_))
  all_goals
    refine fin1 (dbool ?_)
    simp only [ge_iff_le, decide_eq_true_eq, decide_eq_false_iff_not] at *
    simp [*]
theorem refWords_c : PFun Tryz.prog 129 [] [] (.d (.sl (words.map scell))) [] := by
  refine fn_sem pok 2 0 Tryz.func129 (by kernel_rfl) rfl rfl rfl rfl ?_
  refine SWp.go pok (by kernel_rfl) ?_
  exact fin1 rfl
theorem refWord_c (s : Str) : PFun Tryz.prog 91 [sv' s] [] (.d (.bool (isWord s))) [] := by
  refine fn_sem pok 18 0 Tryz.func91 (by kernel_rfl) rfl rfl rfl rfl ?_
  refine SWp.go pok (by kernel_rfl) ?_
  refine PFun.call refWords_c ?_
  refine SWp.loop (fun k : Nat => k ≤ words.length ∧ (words.drop k).any (fun w => s == w) = isWord s) (fun k => ([(0, sv' s), (3, .d (.sl (words.map scell))), (4, iv k)], [])) (fun k => words.length - k) 0 ⟨Nat.zero_le _, rfl⟩ (Le.same ⟨rfl, rfl, rfl, trivial⟩) (fun k hk => ?_)
  obtain ⟨hj, hk⟩ := hk
  have hwl : words.length = 20 := rfl
  refine SWp.go pok (by kernel_rfl) ?_
  refine brP_split (fun h => ?_) (fun h => ?_)
  · have hlt : k < words.length := by simpa using h
    have hat : (words.drop k).any (fun w => s == w) = ((s == words[k]) || (words.drop (k + 1)).any (fun w => s == w)) := by rw [List.drop_eq_getElem_cons hlt]; rfl
    refine PIdx.map (get_at hlt) ?_
    refine brP_split (fun h3 => ?_) (fun h3 => ?_)
    · have h3 : (s == words[k]) = true := by rw [beq_iff_eq] at h3 ⊢; exact h3.symm
      exact fin1 (dbool (by rw [← hk, hat, h3]; rfl))
    · have h3 : (s == words[k]) = false := by rw [beq_eq_false_iff_ne] at h3 ⊢; exact fun e => h3 e.symm
      exact ⟨k + 1, ⟨hlt, by rw [← hk, hat, h3]; rfl⟩, by omega, Le.same ⟨rfl, rfl, sint (wrap_nat k (by omega)), trivial⟩⟩
  · have hk' : words.drop k = [] := List.drop_of_length_le (by simp at h; omega)
    exact fin1 (dbool (by rw [← hk, hk']; rfl))
end Go.Proofs.YtmflfcbebeikcaaGreatDoor.Q

namespace Go.Proofs.YtmflfcbebeikcaaGreatDoor.Q
open Go.RowKit
variable [Amb]
mutual
/-- An expression and all its parts, the whole first. -/
def Ex.pre : Ex → List Ex
  | ⟨op, mon, name, n, kids, pl⟩ => ⟨op, mon, name, n, kids, pl⟩ :: Ex.pres kids
def Ex.pres : List Ex → List Ex
  | [] => []
  | x :: r => x.pre ++ Ex.pres r
end
theorem Ex.pre_eq (x : Ex) : x.pre = x :: Ex.pres x.kids := by cases x; rw [Ex.pre]
theorem Ex.pres_map : ∀ l : List Ex, Ex.pres l = l.flatMap Ex.pre
  | [] => by simp [Ex.pres]
  | x :: r => by rw [Ex.pres, Ex.pres_map r]; simp
theorem Ex.pres_snoc {l : List Ex} {k : Nat} (h : k < l.length) : Ex.pres (l.take (k + 1)) = Ex.pres (l.take k) ++ l[k].pre := by
  rw [Ex.pres_map, Ex.pres_map, take_snoc l k h, List.flatMap_append]; simp
theorem Ex.pre_pos (x : Ex) : 0 < x.pre.length := by rw [x.pre_eq]; simp
theorem Ex.pre_kid {x y : Ex} (h : y ∈ x.kids) : y.pre.length < x.pre.length := by
  rw [x.pre_eq, Ex.pres_map]
  obtain ⟨a, b, e⟩ := List.append_of_mem h
  rw [e]; simp [List.length_flatMap]; omega
theorem Ex.pre_sub {x y z : Ex} (h : y ∈ x.kids) (k : z ∈ y.pre) : z ∈ x.pre := by
  rw [x.pre_eq, Ex.pres_map]
  exact List.mem_cons_of_mem _ (List.mem_flatMap.2 ⟨y, h, k⟩)
theorem Ex.kids_len (x : Ex) : x.kids.length < x.pre.length := by
  rw [x.pre_eq, Ex.pres_map]
  have : ∀ l : List Ex, l.length ≤ (l.flatMap Ex.pre).length := by
    intro l
    induction l with
    | nil => simp
    | cons y r ih => have := y.pre_pos; rw [List.flatMap_cons, List.length_append, List.length_cons]; omega
  have := this x.kids
  rw [List.length_cons]; omega
/-- Expressions are handed on, one behind the other, until one says no. -/
def runY : List (List V) → List Ex → Bool × List (List V)
  | xs, [] => (true, xs)
  | xs, y :: ys => if Amb.go (xs ++ [[y.v]]) = true then runY (xs ++ [[y.v]]) ys else (false, xs ++ [[y.v]])
theorem runY_yes {y : Ex} {ys : List Ex} {xs : List (List V)} (h : Amb.go (xs ++ [[y.v]]) = true) : runY xs (y :: ys) = runY (xs ++ [[y.v]]) ys := by rw [runY, if_pos h]
theorem runY_no {y : Ex} {ys : List Ex} {xs : List (List V)} (h : ¬ Amb.go (xs ++ [[y.v]]) = true) : runY xs (y :: ys) = (false, xs ++ [[y.v]]) := by rw [runY, if_neg h]
theorem runY_append_yes : ∀ (l1 l2 : List Ex) (xs : List (List V)), (runY xs l1).1 = true → runY xs (l1 ++ l2) = runY (runY xs l1).2 l2
  | [], l2, xs, _ => rfl
  | y :: ys, l2, xs, k => by
    by_cases h : Amb.go (xs ++ [[y.v]]) = true
    · rw [runY_yes h] at k ⊢; rw [List.cons_append, runY_yes h]; exact runY_append_yes ys l2 _ k
    · rw [runY_no h] at k; cases k
theorem runY_append_no : ∀ (l1 l2 : List Ex) (xs : List (List V)), (runY xs l1).1 = false → runY xs (l1 ++ l2) = runY xs l1
  | [], l2, xs, k => by cases k
  | y :: ys, l2, xs, k => by
    by_cases h : Amb.go (xs ++ [[y.v]]) = true
    · rw [runY_yes h] at k ⊢; rw [List.cons_append, runY_yes h]; exact runY_append_no ys l2 _ k
    · rw [runY_no h, List.cons_append, runY_no h]
def Wents (xs : List (List V)) : Prop := ∀ m, 0 < m → m ≤ xs.length → Amb.go (xs.take m) = true
theorem Wents.snoc {xs : List (List V)} {a : List V} (h : Wents xs) (k : Amb.go (xs ++ [a]) = true) : Wents (xs ++ [a]) := fun m h0 hm => by
  by_cases e : m ≤ xs.length
  · rw [List.take_append_of_le_length e]; exact h m h0 e
  · have : m = (xs ++ [a]).length := by simp at hm ⊢; omega
    rw [this, List.take_length]; exact k
theorem runY_went : ∀ (l : List Ex) (xs : List (List V)), Wents xs → (runY xs l).1 = true → Wents (runY xs l).2
  | [], xs, h, _ => h
  | y :: ys, xs, h, k => by
    by_cases hg : Amb.go (xs ++ [[y.v]]) = true
    · rw [runY_yes hg] at k ⊢; exact runY_went ys _ (h.snoc hg) k
    · rw [runY_no hg] at k; cases k
abbrev walkH (xs : List (List V)) : List Ob := [.box [.yld 1], .hist xs, .box [.fn (.func 123) [] [.ptr 0 0, .ptr 2 0]]]
theorem walk_c (N : Nat) : ∀ (x : Ex) (xs : List (List V)), x.pre.length ≤ N → x.pre.length < 1073741824 → Wents xs → (∀ zs y, y ∈ x.pre → Amb.ok Tryz.prog (zs ++ [[y.v]])) →
    PFun Tryz.prog 123 [x.v, .ptr 0 0, .ptr 2 0] (walkH xs) (.d (.bool (runY xs x.pre).1)) (walkH (runY xs x.pre).2) := by
  induction N with
  | zero => intro x xs h; have := x.pre_pos; omega
  | succ N ih =>
    intro x xs hN hB hw hok
    have hkl := x.kids_len
    refine fn_sem pok 23 3 Tryz.func123 (by kernel_rfl) rfl rfl rfl rfl ?_
    refine SWp.go pok (by kernel_rfl) ?_
    refine ⟨⟨hok xs x (by rw [x.pre_eq]; exact List.mem_cons_self), hw⟩, brP_split (fun h => ?_) (fun h => ?_)⟩
    · have hw1 := hw.snoc h
      have hr0 : runY xs x.pre = runY (xs ++ [[x.v]]) (Ex.pres x.kids) := by rw [x.pre_eq, runY_yes h]
      refine SWp.loop (fun k : Nat => k ≤ x.kids.length ∧ (runY (xs ++ [[x.v]]) (Ex.pres (x.kids.take k))).1 = true)
        (fun k => ([(1, .ptr 0 0), (2, .ptr 2 0), (12, .d (.sl (x.kids.map Ex.e))), (13, iv (x.kids.map Ex.e).length), (14, iv k)], walkH (runY (xs ++ [[x.v]]) (Ex.pres (x.kids.take k))).2))
        (fun k => x.kids.length - k) 0 ⟨Nat.zero_le _, by simp [Ex.pres, runY]⟩ (.inr ⟨[0, 1, 2], ⟨rfl, rfl⟩, rfl, rfl, rfl, rfl, rfl, rfl, trivial⟩) (fun k hk => ?_)
      obtain ⟨hj, hk⟩ := hk
      refine SWp.go pok (by kernel_rfl) ?_
      refine brP_split (fun h2 => ?_) (fun h2 => ?_)
      · have hlt : k < x.kids.length := by simpa using h2
        have hm := List.getElem_mem hlt
        have hsn := Ex.pres_snoc hlt
        have hlk := Ex.pre_kid hm
        have hap := runY_append_yes (Ex.pres (x.kids.take k)) x.kids[k].pre (xs ++ [[x.v]]) hk
        rw [← hsn] at hap
        refine PIdx.ex hlt ?_
        refine PFun.call (ih x.kids[k] (runY (xs ++ [[x.v]]) (Ex.pres (x.kids.take k))).2 (by omega) (by omega) (runY_went _ _ hw1 hk) (fun zs y hy => hok zs y (Ex.pre_sub hm hy))) ?_
        rw [← hap]
        refine brP_split (fun h3 => ?_) (fun h3 => ?_)
        · have h3 : (runY (xs ++ [[x.v]]) (Ex.pres (x.kids.take (k + 1)))).1 = false := by simpa using h3
          have hfin : runY xs x.pre = runY (xs ++ [[x.v]]) (Ex.pres (x.kids.take (k + 1))) := by
            rw [hr0]
            have e1 : x.kids = x.kids.take (k + 1) ++ x.kids.drop (k + 1) := (List.take_append_drop _ _).symm
            have e2 : Ex.pres x.kids = Ex.pres (x.kids.take (k + 1)) ++ Ex.pres (x.kids.drop (k + 1)) := by
              rw [Ex.pres_map, Ex.pres_map, Ex.pres_map, ← List.flatMap_append, ← e1]
            rw [e2, runY_append_no _ _ _ h3]
          exact ⟨by rw [hfin, h3], by rw [hfin]⟩
        · exact ⟨k + 1, ⟨hlt, by simpa using h3⟩, by omega, .inr ⟨[0, 1, 2], ⟨rfl, rfl⟩, rfl, rfl, rfl, rfl, rfl, sint (wrap_nat k (by omega)), trivial⟩⟩
      · have hk' : x.kids.take k = x.kids := List.take_of_length_le (by simp at h2; omega)
        rw [hk'] at hk ⊢
        exact ⟨by rw [hr0, hk], by rw [hr0]⟩
    · have hr0 : runY xs x.pre = (false, xs ++ [[x.v]]) := by rw [x.pre_eq, runY_no (fun e => absurd (e.symm.trans h) (by simp))]
      exact ⟨by rw [hr0], by rw [hr0]; rfl⟩
end Go.Proofs.YtmflfcbebeikcaaGreatDoor.Q

namespace Go.Proofs.YtmflfcbebeikcaaGreatDoor.Q
open Go.RowKit
variable [Amb]
def partsL : List Int := [-1, 0, 0, 0, 0, 1, 1, 1, 2, 2, 2, 2, 2, 2, 2, 2, 2, 2]
/-- How many parts a kind of expressions has. -/
def partsS (op : Int) : Int := if op < 0 then -1 else if 18 ≤ op then -1 else partsL.getD op.toNat (-1)
theorem parts_c (op : Int) : PFun Tryz.prog 124 [iv op] [] (iv (partsS op)) [] := by
  refine fn_sem pok 14 0 Tryz.func124 (by kernel_rfl) rfl rfl rfl rfl ?_
  by_cases h0 : op < 0
  · refine SWp.go pok (by kernel_rfl) ?_
    refine brP_true (decide_eq_true h0) ?_
    exact fin1 (dint (by rw [partsS, if_pos h0]))
  by_cases h1 : 18 ≤ op
  · refine SWp.go pok (by kernel_rfl) ?_
    refine brP_false (decide_eq_false h0) ?_
    refine brP_true (decide_eq_true (by omega)) ?_
    exact fin1 (dint (by rw [partsS, if_neg h0, if_pos h1]))
  have : op = 0 ∨ op = 1 ∨ op = 2 ∨ op = 3 ∨ op = 4 ∨ op = 5 ∨ op = 6 ∨ op = 7 ∨ op = 8 ∨ op = 9 ∨ op = 10 ∨ op = 11 ∨ op = 12 ∨ op = 13 ∨ op = 14 ∨ op = 15 ∨ op = 16 ∨ op = 17 := by omega
  rcases this with rfl | rfl | rfl | rfl | rfl | rfl | rfl | rfl | rfl | rfl | rfl | rfl | rfl | rfl | rfl | rfl | rfl | rfl <;>
  · refine SWp.go pok (by kernel_rfl) ?_
    exact ⟨by decide, fin1 rfl⟩
/-- Whether an expression has its shape, its parts aside. -/
def isPartS (x : Ex) : Bool :=
  ((x.kids.length : Int) == partsS x.op) && (bif x.op == 4 then isName x.mon && isName x.name else (x.mon == []) && (x.name == [])) && (decide (x.n ≥ 0) && ((x.op == 1) || (x.op == 7) || (x.n == 0)))
theorem isPart_c (x : Ex) (hk : x.kids.length < 1073741824) (hm : x.mon.length < 1073741824) (hn : x.name.length < 1073741824) : PFun Tryz.prog 82 [x.v] [] (.d (.bool (isPartS x))) [] := by
  refine fn_sem pok 62 0 Tryz.func82 (by kernel_rfl) rfl rfl rfl rfl ?_
  refine SWp.go pok (by kernel_rfl) ?_
  repeat' first
    | refine brP_split (fun h => ?_) (fun h => ?_)
    | refine PFun.call (lexName_c x.mon hm) ?_
    | refine PFun.call (lexName_c x.name hn) ?_
    | refine ⟨_, _, parts_c x.op, ?_⟩
  all_goals
    refine fin1 (dbool ?_)
    unfold isPartS
    simp_all
    try omega
end Go.Proofs.YtmflfcbebeikcaaGreatDoor.Q

namespace Go.Proofs.YtmflfcbebeikcaaGreatDoor.Q
open Go.RowKit
section
variable [Amb]
theorem all1_c (x : Ex) (hB : x.pre.length < 1073741824) (hok : ∀ zs y, y ∈ x.pre → Amb.ok Tryz.prog (zs ++ [[y.v]])) :
    PFun Tryz.prog 122 [.yld 1, .ptr 0 0] [.box x.cells, .hist []] (.tup []) [.box x.cells, .hist (runY [] x.pre).2] := by
  refine fn_sem pok 8 2 Tryz.func122 (by kernel_rfl) rfl rfl rfl rfl ?_
  refine SWp.go pok (by kernel_rfl) ?_
  refine PFun.call (walk_c _ x [] (Nat.le_refl _) hB (fun m h0 hm => by simp at hm; omega) hok) ?_
  exact ⟨rfl, rfl⟩
theorem all_c (x : Ex) : PFun Tryz.prog 81 [x.v] [] (.fn (.func 122) [] [.ptr 0 0]) [.box x.cells] := by
  refine fn_sem pok 4 0 Tryz.func81 (by kernel_rfl) rfl rfl rfl rfl ?_
  refine SWp.go pok (by kernel_rfl) ?_
  exact ⟨rfl, rfl⟩
end
/-! ### ranges over all parts -/
theorem runY_spec [Amb] (p : Ex → Bool) : ∀ (l : List Ex) (xs : List (List V)), (∀ zs y, y ∈ l → Amb.go (zs ++ [[y.v]]) = p y) →
    (l.all p = true → runY xs l = (true, xs ++ l.map fun y => [y.v])) ∧ (l.all p = false → ∃ zs y, y ∈ l ∧ p y = false ∧ runY xs l = (false, zs ++ [[y.v]]))
  | [], xs, _ => ⟨fun _ => by simp [runY], fun h => by simp at h⟩
  | y :: l, xs, hp => by
    have hg := hp xs y List.mem_cons_self
    have ih := runY_spec p l (xs ++ [[y.v]]) (fun zs z hz => hp zs z (List.mem_cons_of_mem _ hz))
    cases hy : p y with
    | true =>
      rw [hy] at hg
      rw [runY_yes hg]
      refine ⟨fun h => ?_, fun h => ?_⟩
      · rw [ih.1 (by simpa [hy] using h)]; simp
      · obtain ⟨zs, z, h1, h2⟩ := ih.2 (by simpa [hy] using h)
        exact ⟨zs, z, List.mem_cons_of_mem _ h1, h2⟩
    | false =>
      rw [hy] at hg
      rw [runY_no (by rw [hg]; simp)]
      exact ⟨fun h => by simp [hy] at h, fun _ => ⟨xs, y, List.mem_cons_self, hy, rfl⟩⟩
/-- The last that was handed on is not as it must be. -/
def BadLast (p : Ex → Bool) (xs : List (List V)) : Prop := ∃ zs y, xs = zs ++ [[Ex.v y]] ∧ p y = false
noncomputable def lastOr {α : Type} (p : Ex → Bool) (good bad : α) (xs : List (List V)) : α := @ite _ (BadLast p xs) (Classical.propDecidable _) bad good
theorem lastOr_snoc {α : Type} {p : Ex → Bool} (hp : ∀ y z : Ex, y.v = z.v → p y = p z) (good bad : α) (zs : List (List V)) (y : Ex) : lastOr p good bad (zs ++ [[y.v]]) = bif p y then good else bad := by
  unfold lastOr
  cases hy : p y with
  | true =>
    rw [if_neg]; rfl
    rintro ⟨zs', y', e, h⟩
    have e2 := (List.append_inj' e rfl).2
    injection e2 with e2; injection e2 with e2
    rw [hp y y' e2] at hy
    rw [hy] at h; cases h
  | false =>
    rw [if_pos ⟨zs, y, rfl, hy⟩]; rfl
theorem lastOr_nil {α : Type} {p : Ex → Bool} (good bad : α) : lastOr p good bad [] = good := by
  unfold lastOr
  rw [if_neg]
  rintro ⟨zs, y, e, _⟩
  have := congrArg List.length e
  simp at this
theorem lastOr_map {α β : Type} (f : α → β) {p : Ex → Bool} (good bad : α) (xs : List (List V)) : f (lastOr p good bad xs) = lastOr p (f good) (f bad) xs := by
  unfold lastOr
  by_cases h : BadLast p xs
  · rw [if_pos h, if_pos h]
  · rw [if_neg h, if_neg h]
theorem lastOr_cases {α : Type} (p : Ex → Bool) (good bad : α) (xs : List (List V)) : (lastOr p good bad xs = good ∧ ∀ {β : Type} (a b : β), lastOr p a b xs = a) ∨ (lastOr p good bad xs = bad ∧ ∀ {β : Type} (a b : β), lastOr p a b xs = b) := by
  by_cases h : BadLast p xs
  · exact .inr ⟨by unfold lastOr; rw [if_pos h], fun a b => by unfold lastOr; rw [if_pos h]⟩
  · exact .inl ⟨by unfold lastOr; rw [if_neg h], fun a b => by unfold lastOr; rw [if_neg h]⟩
/-- An expression that fits into memory. -/
def Ex.fits (x : Ex) : Prop := x.pre.length < 1073741824 ∧ ∀ y ∈ x.pre, y.kids.length < 1073741824 ∧ y.mon.length < 1073741824 ∧ y.name.length < 1073741824
theorem isPartS_v (y z : Ex) (h : y.v = z.v) : isPartS y = isPartS z := by
  unfold Ex.v at h
  simp only [V.agg.injEq, List.cons.injEq, V.d.injEq, D.int.injEq, D.str.injEq, D.sl.injEq, true_and, and_true] at h
  obtain ⟨h1, h2, h3, h4, h5, h6⟩ := h
  have h5 := congrArg List.length h5
  simp at h5
  unfold isPartS
  rw [h1, h2, h3, h4, h5]
/-- Whether an expression has its shape: 0; else 20. -/
def checkS (x : Ex) : Int := bif x.pre.all isPartS then 0 else 20
theorem checkExpr_c [Amb] (x : Ex) (hx : x.fits) : PFun Tryz.prog 43 [x.v] [] (iv (checkS x)) [] := by
  refine fn_sem pok 10 0 Tryz.func43 (by kernel_rfl) rfl rfl rfl rfl ?_
  refine SWp.go pok (by kernel_rfl) ?_
  refine PFun.call (all_c x) ?_
  refine SWp.range 122 [.ptr 2 0] rfl rfl (by decide) (lastOr isPartS .normal .ret) (lastOr_nil _ _) (fun xs => ∃ zs y, y ∈ x.pre ∧ xs = zs ++ [[y.v]])
    (fun xs a ⟨zs, y, _, e⟩ => by have := (List.append_inj' e rfl).2; injection this with this; rw [this]; rfl)
    (lastOr isPartS [.box x.cells, .box [iv 0], .dead] [.box x.cells, .box [iv 20], .dead]) (fun xs => by rw [lastOr_map List.length]; rcases lastOr_cases isPartS 3 3 xs with h | h <;> exact h.1)
    (fun xs => lastOr isPartS 0 20 xs = checkS x) (fun l xs a hok hfin => ?_) ?_ (fun xs hz => ?_)
  · obtain ⟨zs, y, hy, e⟩ := hok
    obtain ⟨e1, e2⟩ := List.append_inj' e rfl
    injection e2 with e2
    subst e1; subst e2
    have hf := hx.2 y hy
    have hst : ∀ {β : Type} (a b : β), lastOr isPartS a b xs = a := by
      rcases lastOr_cases isPartS PX.normal PX.ret xs with h | h
      · exact h.2
      · rw [h.1] at hfin; cases hfin
    unfold roundQ
    rw [hst, lastOr_snoc isPartS_v, lastOr_snoc isPartS_v]
    refine SWp.go pok (by kernel_rfl) ?_
    refine SWp.go pok (by kernel_rfl) ?_
    refine PFun.call (isPart_c y hf.1 hf.2.1 hf.2.2) ?_
    refine brP_split (fun h => ?_) (fun h => ?_)
    · have h : isPartS y = false := by simpa using h
      exact ⟨by rw [h]; rfl, .inr ⟨[0, 1, 2], ⟨rfl, rfl⟩, by rw [h]; rfl, trivial⟩⟩
    · have h : isPartS y = true := by simpa using h
      exact ⟨by rw [h]; rfl, .inr ⟨[0, 1, 2], ⟨rfl, rfl⟩, by rw [h]; rfl, trivial⟩⟩
  · refine ⟨lastOr_nil _ _, rfl, fun A' _ hgo hok => ?_⟩
    refine PCalls.mono (@all1_c A' x hx.1 (fun zs y hy => by rw [hok]; exact ⟨rfl, zs, y, hy, rfl⟩)) ?_
    rintro r h' ⟨_, rfl⟩
    refine ⟨_, [.box x.cells], rfl, rfl, ?_⟩
    have sp := @runY_spec A' isPartS x.pre [] (fun zs y hy => by
      rw [hgo]
      show (lastOr isPartS PX.normal PX.ret (zs ++ [[y.v]])).goes = _
      rw [lastOr_snoc isPartS_v]; cases isPartS y <;> rfl)
    unfold checkS
    cases hall : x.pre.all isPartS with
    | true =>
      rw [sp.1 hall]
      show lastOr isPartS 0 20 ([] ++ x.pre.map fun y => [y.v]) = 0
      rcases List.eq_nil_or_concat x.pre with h | ⟨l, z, h⟩
      · rw [h]; exact lastOr_nil _ _
      · rw [h, List.concat_eq_append] at hall ⊢
        rw [List.map_append, ← List.append_assoc]
        rw [List.map_cons, List.map_nil, lastOr_snoc isPartS_v]
        have : isPartS z = true := by rw [List.all_append] at hall; simp at hall; exact hall.2
        rw [this]; rfl
    | false =>
      obtain ⟨zs, z, _, h2, h3⟩ := sp.2 hall
      rw [h3]
      show lastOr isPartS 0 20 (zs ++ [[z.v]]) = 20
      rw [lastOr_snoc isPartS_v, h2]; rfl
  · rcases lastOr_cases isPartS PX.normal PX.ret xs with h | h
    · rw [h.1, h.2]
      rw [h.2] at hz
      exact fin1 (dint hz)
    · rw [h.1, h.2]
      rw [h.2] at hz
      exact fin1 (dint hz)
end Go.Proofs.YtmflfcbebeikcaaGreatDoor.Q

namespace Go.Proofs.YtmflfcbebeikcaaGreatDoor.Q
open Go.RowKit
variable [Amb]
theorem refName_c (s : Str) (hs : s.length < 1073741824) : PFun Tryz.prog 53 [sv' s] [] (.d (.bool (isName s))) [] := by
  refine fn_sem pok 45 0 Tryz.func53 (by kernel_rfl) rfl rfl rfl rfl ?_
  refine SWp.go pok (by kernel_rfl) ?_
  refine brP_split (fun h => ?_) (fun h => ?_)
  · have : s = [] := by simp at h; exact List.eq_nil_of_length_eq_zero (by omega)
    exact fin1 (dbool (by rw [this]; rfl))
  have hne : s ≠ [] := fun e => by rw [e] at h; simp at h
  refine brP_split (fun h => ?_) (fun h => ?_)
  · have : ¬ s.length ≤ 32 := by simp at h; omega
    exact fin1 (dbool (by simp [isName, this]))
  have h32 : s.length ≤ 32 := by simp at h; omega
  have hh : s[0]? = some (s.headD 0) := by cases s with | nil => exact absurd rfl hne | cons b r => rfl
  refine PIdx.at hh ?_
  refine PFun.call (refLetter_c _) ?_
  refine brP_split (fun h2 => ?_) (fun h2 => ?_)
  · have h2 : (classS ((s.headD 0).toNat : Int) == 3) = false := by simpa using h2
    exact fin1 (dbool (by simp only [isName, h2]; simp))
  have h2 : (classS ((s.headD 0).toNat : Int) == 3) = true := by simpa using h2
  have hnm : isName s = (!isWord s && (spanF inNameS 0 s == s.length)) := by
    simp only [isName, h2, decide_eq_true h32, beq_eq_false_iff_ne.2 hne]; rfl
  refine SWp.loop (fun k : Nat => k ≤ s.length ∧ spanF inNameS k (s.drop k) = spanF inNameS 0 s) (fun k => ([(0, sv' s), (3, iv k)], [])) (fun k => s.length - k) 0 ⟨Nat.zero_le _, rfl⟩ (Le.same ⟨rfl, rfl, trivial⟩) (fun k hk => ?_)
  obtain ⟨hj, hk⟩ := hk
  refine SWp.go pok (by kernel_rfl) ?_
  refine brP_split (fun h => ?_) (fun h => ?_)
  · have hlt : k < s.length := by simpa using h
    have hat := spanF_at inNameS hlt
    refine PIdx.at (get_at hlt) ?_
    refine PFun.call (refLetter_c _) ?_
    refine brP_split (fun h3 => ?_) (fun h3 => ?_)
    · have h3 : (classS (s[k].toNat : Int) == 3) = false := by simpa using h3
      refine PIdx.at (get_at hlt) ?_
      refine PFun.call (refDigit_c _) ?_
      refine brP_split (fun h4 => ?_) (fun h4 => ?_)
      · have h4 : (classS (s[k].toNat : Int) == 4) = false := by simpa using h4
        refine PIdx.at (get_at hlt) ?_
        refine brP_split (fun h5 => ?_) (fun h5 => ?_)
        · have h5 : ((s[k].toNat : Int) == 95) = false := by simpa using h5
          have hin : inNameS s[k].toNat = false := by unfold inNameS; rw [h3, h4, h5]; rfl
          have hsp : spanF inNameS 0 s = k := by rw [← hk, hat, if_neg (by rw [hin]; simp)]
          have hno : isName s = false := by rw [hnm, hsp, beq_eq_false_iff_ne.2 (by omega : k ≠ s.length)]; simp
          rw [hno]
          exact fin1 rfl
        · have h5 : ((s[k].toNat : Int) == 95) = true := by simpa using h5
          have hin : inNameS s[k].toNat = true := by unfold inNameS; rw [h5]; simp
          exact ⟨k + 1, ⟨hlt, by rw [← hk, hat, if_pos hin]⟩, by omega, Le.same ⟨rfl, sint (wrap_nat k (by omega)), trivial⟩⟩
      · have h4 : (classS (s[k].toNat : Int) == 4) = true := by simpa using h4
        have hin : inNameS s[k].toNat = true := by unfold inNameS; rw [h4]; simp
        exact ⟨k + 1, ⟨hlt, by rw [← hk, hat, if_pos hin]⟩, by omega, Le.same ⟨rfl, sint (wrap_nat k (by omega)), trivial⟩⟩
    · have h3 : (classS (s[k].toNat : Int) == 3) = true := by simpa using h3
      have hin : inNameS s[k].toNat = true := by unfold inNameS; rw [h3]; simp
      exact ⟨k + 1, ⟨hlt, by rw [← hk, hat, if_pos hin]⟩, by omega, Le.same ⟨rfl, sint (wrap_nat k (by omega)), trivial⟩⟩
  · have hk' : s.drop k = [] := List.drop_of_length_le (by simp at h; omega)
    have hl : k = s.length := by simp at h; omega
    have hsp : (spanF inNameS 0 s == s.length) = true := by rw [← hk, hk', ← hl]; simp [spanF]
    rw [hnm, hsp, Bool.and_true]
    refine PFun.call (refWord_c s) ?_
    refine brP_split (fun h3 => ?_) (fun h3 => ?_)
    · exact fin1 (dbool h3.symm)
    · exact fin1 (dbool h3.symm)
end Go.Proofs.YtmflfcbebeikcaaGreatDoor.Q

namespace Go.Proofs.YtmflfcbebeikcaaGreatDoor.Q
open Go.RowKit
variable [Amb]
theorem partsS_eq (op : Int) : partsS op = if 1 ≤ op ∧ op ≤ 4 then 0 else if 5 ≤ op ∧ op ≤ 7 then 1 else if 8 ≤ op ∧ op ≤ 17 then 2 else -1 := by
  unfold partsS
  by_cases h0 : op < 0
  · rw [if_pos h0, if_neg (by omega), if_neg (by omega), if_neg (by omega)]
  by_cases h1 : 18 ≤ op
  · rw [if_neg h0, if_pos h1, if_neg (by omega), if_neg (by omega), if_neg (by omega)]
  have : op = 0 ∨ op = 1 ∨ op = 2 ∨ op = 3 ∨ op = 4 ∨ op = 5 ∨ op = 6 ∨ op = 7 ∨ op = 8 ∨ op = 9 ∨ op = 10 ∨ op = 11 ∨ op = 12 ∨ op = 13 ∨ op = 14 ∨ op = 15 ∨ op = 16 ∨ op = 17 := by omega
  rcases this with rfl | rfl | rfl | rfl | rfl | rfl | rfl | rfl | rfl | rfl | rfl | rfl | rfl | rfl | rfl | rfl | rfl | rfl <;> rfl
theorem refKids_c (op : Int) : PFun Tryz.prog 130 [iv op] [] (iv (partsS op)) [] := by
  rw [partsS_eq]
  refine fn_sem pok 24 0 Tryz.func130 (by kernel_rfl) rfl rfl rfl rfl ?_
  refine SWp.go pok (by kernel_rfl) ?_
  repeat' (refine brP_split (fun h => ?_) (fun h => ?_))
  all_goals
    refine fin1 (dint ?_)
    simp only [ge_iff_le, decide_eq_true_eq, decide_eq_false_iff_not] at *
    repeat' split
    all_goals omega
theorem refIsExpr_c (N : Nat) : ∀ (x : Ex), x.pre.length ≤ N → x.fits → PFun Tryz.prog 93 [x.v] [] (.d (.bool (x.pre.all isPartS))) [] := by
  induction N with
  | zero => intro x h; have := x.pre_pos; omega
  | succ N ih =>
    intro x hN hx
    have hkl := x.kids_len
    have hxf := hx.2 x (by rw [x.pre_eq]; exact List.mem_cons_self)
    have hpre : x.pre.all isPartS = (isPartS x && (Ex.pres x.kids).all isPartS) := by rw [x.pre_eq]; rfl
    refine fn_sem pok 66 0 Tryz.func93 (by kernel_rfl) rfl rfl rfl rfl ?_
    cases hp : isPartS x with
    | false =>
      rw [hpre, hp, Bool.false_and]
      unfold isPartS at hp
      refine SWp.go pok (by kernel_rfl) ?_
      refine ⟨_, _, refKids_c x.op, ?_⟩
      repeat' first
        | refine brP_split (fun h => ?_) (fun h => ?_)
        | refine PFun.call (refName_c x.mon hxf.2.1) ?_
        | refine PFun.call (refName_c x.name hxf.2.2) ?_
      all_goals first
        | exact fin1 rfl
        | (exfalso; simp_all; done)
        | (exfalso; simp_all; omega)
    | true =>
      rw [hpre, hp, Bool.true_and]
      have hp' := hp
      unfold isPartS at hp
      refine SWp.then pok (by kernel_rfl) ?_
      refine SWp.cut pok [(1, .ptr 0 0)] [.box x.cells] (by kernel_rfl) ?_ ?_
      · refine ⟨_, _, refKids_c x.op, ?_⟩
        repeat' (refine brP_split (fun h => ?_) (fun h => ?_))
        all_goals first
          | exact .inl ⟨⟨rfl, trivial⟩, rfl⟩
          | (exfalso; simp_all; done)
          | (exfalso; simp_all; omega)
      refine SWp.cut pok [(1, .ptr 0 0)] [.box x.cells] (by kernel_rfl) ?_ ?_
      · repeat' first
          | refine brP_split (fun h => ?_) (fun h => ?_)
          | refine PFun.call (refName_c x.mon hxf.2.1) ?_
          | refine PFun.call (refName_c x.name hxf.2.2) ?_
        all_goals first
          | exact .inl ⟨⟨rfl, trivial⟩, rfl⟩
          | (exfalso; simp_all; done)
          | (exfalso; simp_all; omega)
      refine SWp.go pok (by kernel_rfl) ?_
      refine SWp.loop (fun k : Nat => k ≤ x.kids.length ∧ (Ex.pres (x.kids.take k)).all isPartS = true) (fun k => ([(1, .ptr 0 0), (3, iv k)], [.box x.cells])) (fun k => x.kids.length - k) 0 ⟨Nat.zero_le _, by simp [Ex.pres]⟩ (Le.same ⟨rfl, rfl, trivial⟩) (fun k hk => ?_)
      obtain ⟨hj, hk⟩ := hk
      refine SWp.go pok (by kernel_rfl) ?_
      refine brP_split (fun h => ?_) (fun h => ?_)
      · have hlt : k < x.kids.length := by simpa using h
        have hm := List.getElem_mem hlt
        have hsn := Ex.pres_snoc hlt
        have hlk := Ex.pre_kid hm
        have hkf : x.kids[k].fits := ⟨by have := hx.1; omega, fun y hy => hx.2 y (Ex.pre_sub hm hy)⟩
        refine PIdx.ex hlt ?_
        refine PFun.call (ih x.kids[k] (by omega) hkf) ?_
        refine brP_split (fun h3 => ?_) (fun h3 => ?_)
        · have h3 : x.kids[k].pre.all isPartS = false := by simpa using h3
          have hall : (Ex.pres x.kids).all isPartS = false := by
            have e1 : x.kids = x.kids.take (k + 1) ++ x.kids.drop (k + 1) := (List.take_append_drop _ _).symm
            have e2 : Ex.pres x.kids = Ex.pres (x.kids.take (k + 1)) ++ Ex.pres (x.kids.drop (k + 1)) := by
              rw [Ex.pres_map, Ex.pres_map, Ex.pres_map, ← List.flatMap_append, ← e1]
            rw [e2, hsn, List.all_append, List.all_append, h3]; simp
          exact fin1 (dbool hall.symm)
        · have h3 : x.kids[k].pre.all isPartS = true := by simpa using h3
          exact ⟨k + 1, ⟨hlt, by rw [hsn, List.all_append, hk, h3]; rfl⟩, by omega, Le.same ⟨rfl, sint (wrap_nat k (by omega)), trivial⟩⟩
      · have hk' : x.kids.take k = x.kids := List.take_of_length_le (by simp at h; omega)
        rw [hk'] at hk
        exact fin1 (dbool hk.symm)
end Go.Proofs.YtmflfcbebeikcaaGreatDoor.Q

namespace Go.Proofs.YtmflfcbebeikcaaGreatDoor.Q
open Go.RowKit
variable [Amb]
/-- A number that is left. -/
def Left (n : Int) (X : Int → Prop) : V → List Ob → Prop := fun r h' => ∃ z : Int, r = iv z ∧ h' = [] ∧ -1 ≤ z ∧ z ≤ n ∧ X z
theorem restExpr_c (N : Nat) : ∀ (x : Ex) (n : Int), x.pre.length ≤ N → -1 ≤ n → n ≤ 1000 →
    PCalls Tryz.prog 42 [x.v, iv n] [] (Left n fun z => 0 ≤ z → (x.pre.length : Int) = n - z ∧ ∀ y ∈ x.pre, y.kids.length ≤ 1000 ∧ y.mon.length ≤ 1000 ∧ y.name.length ≤ 1000) := by
  induction N with
  | zero => intro x n h; have := x.pre_pos; omega
  | succ N ih =>
    intro x n hN hn0 hn1
    refine fn_sem pok 44 0 Tryz.func42 (by kernel_rfl) rfl rfl rfl rfl ?_
    refine SWp.go pok (by kernel_rfl) ?_
    refine brP_split (fun h => ?_) (fun h => ?_)
    · exact ⟨-1, rfl, rfl, by omega, by omega, fun h => by omega⟩
    have hm : x.mon.length ≤ 200 := by simp at h; omega
    refine brP_split (fun h => ?_) (fun h => ?_)
    · exact ⟨-1, rfl, rfl, by omega, by omega, fun h => by omega⟩
    have hnm : x.name.length ≤ 200 := by simp at h; omega
    refine brP_split (fun h => ?_) (fun h => ?_)
    · exact ⟨-1, rfl, rfl, by omega, by omega, fun h => by omega⟩
    have hk : (x.kids.length : Int) ≤ n := by simp at h; omega
    have hsub : IntKind.i64.wrap (n - 1) = n - 1 := wrap_in (by unfold R64; omega)
    refine SWp.loop (fun q : Nat × Int => q.1 ≤ x.kids.length ∧ -1 ≤ q.2 ∧ q.2 ≤ n - 1 ∧ (0 ≤ q.2 → ((Ex.pres (x.kids.take q.1)).length : Int) = n - 1 - q.2 ∧ ∀ y ∈ Ex.pres (x.kids.take q.1), y.kids.length ≤ 1000 ∧ y.mon.length ≤ 1000 ∧ y.name.length ≤ 1000))
      (fun q => ([(1, iv q.2), (2, .ptr 0 0), (5, iv q.1)], [.box [iv x.op, sv' x.mon, sv' x.name, iv x.n, .d (.sl (x.kids.map Ex.e)), iv x.pl]])) (fun q => x.kids.length - q.1) (0, n - 1)
      ⟨Nat.zero_le _, by show -1 ≤ n - 1; omega, Int.le_refl _, fun _ => ⟨by simp [Ex.pres], by simp [Ex.pres]⟩⟩ (Le.same ⟨sint hsub, rfl, rfl, trivial⟩) (fun q hq => ?_)
    obtain ⟨k, m⟩ := q
    obtain ⟨hj, hm0, hm1, hX⟩ := hq
    simp only at hj hm0 hm1 hX
    have fin : (k = x.kids.length ∨ m < 0) → 0 ≤ m → (x.pre.length : Int) = n - m ∧ ∀ y ∈ x.pre, y.kids.length ≤ 1000 ∧ y.mon.length ≤ 1000 ∧ y.name.length ≤ 1000 := fun hor hm => by
      have hk' : k = x.kids.length := by omega
      obtain ⟨h1, h2⟩ := hX hm
      rw [hk', List.take_length] at h1 h2
      rw [x.pre_eq]
      refine ⟨by rw [List.length_cons]; omega, fun y hy => ?_⟩
      rcases List.mem_cons.1 hy with e | e
      · subst e; exact ⟨by omega, by omega, by omega⟩
      · exact h2 y e
    refine SWp.go pok (by kernel_rfl) ?_
    refine brP_split (fun h => ?_) (fun h => ?_)
    · have hlt : k < x.kids.length := by simpa using h
      have hlk := Ex.pre_kid (List.getElem_mem hlt)
      have hsn := Ex.pres_snoc hlt
      refine brP_split (fun h2 => ?_) (fun h2 => ?_)
      · have h2 : 0 ≤ m := by simpa using h2
        refine PIdx.ex hlt ?_
        refine PCalls.mono (ih x.kids[k] m (by omega) hm0 (by omega)) ?_
        rintro r h' ⟨z, rfl, rfl, z0, z1, zX⟩
        exact ⟨(k + 1, z), ⟨hlt, z0, by show z ≤ n - 1; omega, fun hz => by
          obtain ⟨a1, a2⟩ := hX h2
          obtain ⟨b1, b2⟩ := zX hz
          rw [hsn]
          refine ⟨by rw [List.length_append]; show _ = n - 1 - z; omega, fun y hy => ?_⟩
          rcases List.mem_append.1 hy with e | e
          · exact a2 y e
          · exact b2 y e⟩, by show x.kids.length - (k + 1) < x.kids.length - k; omega, Le.same ⟨rfl, rfl, sint (wrap_nat k (by omega)), trivial⟩⟩
      · have h2 : m < 0 := by simpa using h2
        exact ⟨m, rfl, rfl, hm0, by omega, fun hz => by omega⟩
    · have hk' : k = x.kids.length := by simp at h; omega
      exact ⟨m, rfl, rfl, hm0, by omega, fun hz => fin (.inl hk') hz⟩
end Go.Proofs.YtmflfcbebeikcaaGreatDoor.Q

namespace Go.Proofs.YtmflfcbebeikcaaGreatDoor.Q
open Go.RowKit
def Ex.nums (x : Ex) : Prop := ∀ y ∈ x.pre, R64 y.n
theorem rd_Ex (fuel : Nat) : RdD Tryz.prog fuel 55 (fun r => ∃ x : Ex, Ex.nums x ∧ r = x.e) := by
  letI : Amb := ambD
  induction fuel using Nat.strongRecOn with
  | _ fuel ih =>
    refine (rdD_struct (fs := [(3, 0), (9, 1), (9, 2), (2, 3), (53, 4), (3, 5)]) (by kernel_rfl) (sz := 1 + (1 + (1 + (1 + (1 + 1))))) (by kernel_rfl) fuel fun m hm =>
      frD_cons (by kernel_rfl) (rd_int m) (frD_cons (by kernel_rfl) (rd_str m) (frD_cons (by kernel_rfl) (rd_str m) (frD_cons (by kernel_rfl) (rd_int64 m)
        (frD_cons (by kernel_rfl) (rdD_slice (sz := 6) (e := 55) (by kernel_rfl) (by kernel_rfl) (by decide) m fun m' hm' => ih m' (by omega)) (frD_last (by kernel_rfl) (rd_int m))))))).mono ?_
    rintro r ⟨_, _, ⟨op, h1, rfl⟩, ⟨_, _, ⟨mon, h2, rfl⟩, ⟨_, _, ⟨name, h3, rfl⟩, ⟨_, _, ⟨n, h4, rfl⟩, ⟨_, _, ⟨rows, h5, h6, rfl⟩, ⟨pl, h7, rfl⟩, rfl⟩, rfl⟩, rfl⟩, rfl⟩, rfl⟩
    obtain ⟨l, rfl, hl⟩ := rows_map h5
    refine ⟨⟨op, mon, name, n, l, pl⟩, fun y hy => ?_, by rw [Ex.e_eq]; rfl⟩
    rw [Ex.pre_eq] at hy
    rcases List.mem_cons.1 hy with e | e
    · subst e; exact h4
    · rw [Ex.pres_map] at e
      obtain ⟨z, hz, hyz⟩ := List.mem_flatMap.1 e
      exact hl z hz y hyz
section
variable {H : Type} {enc : TypeId × Value → H} {d : DataW H} {p : List MemPlace} {base : Nat}
theorem read_Ex (W : World) (v : Value) (hv : Value.okWide Tryz.prog W .any base 55 v) (h : DataW.Trod enc Tryz.prog W 0 (fun _ => true) true 55 v d p) : ∃ x : Ex, x.nums ∧ x.v.rep (allG W) (fun _ _ => none) v := by
  obtain ⟨r, ⟨x, hx, rfl⟩, hr⟩ := read_agg (fs := [(3, 0), (9, 1), (9, 2), (2, 3), (53, 4), (3, 5)]) (by kernel_rfl) rd_Ex hv h
  refine ⟨x, hx, ?_⟩
  rw [Ex.e_row] at hr
  exact hr
end
end Go.Proofs.YtmflfcbebeikcaaGreatDoor.Q
