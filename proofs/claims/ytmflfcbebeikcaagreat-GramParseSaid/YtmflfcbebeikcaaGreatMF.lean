/- Trees' shapes; expressions' bound. No condition. -/
import Derived.Test.YtmflfcbebeikcaaGreatMD
import Derived.Test.YtmflfcbebeikcaaGreatMC
import Derived.Test.YtmflfcbebeikcaaGreatME
set_option linter.unusedVariables false
set_option linter.unusedSectionVars false
set_option linter.unnecessarySimpa false
set_option linter.unusedSimpArgs false
set_option maxRecDepth 100000
set_option maxHeartbeats 4000000
namespace Go.Proofs.YtmflfcbebeikcaaGreat.Q
open Go.RowKit
variable [Amb]
mutual
/-- An expression and all its parts, the whole first. -/
def Ex.pre : Ex → List Ex
  | ⟨op, mon, name, n, kids, pl⟩ => ⟨op, mon, name, n, kids, pl⟩ :: Ex.pres kids
def Ex.pres : List Ex → List Ex
  | [] => []
  | x :: r => x.pre ++ Ex.pres r
end
theorem Ex.pre_eq (x : Ex) : x.pre = x :: Ex.pres x.kids := by cases x; rw [Ex.pre]
theorem Ex.pres_map : ∀ l : List Ex, Ex.pres l = l.flatMap Ex.pre
  | [] => by simp [Ex.pres]
  | x :: r => by rw [Ex.pres, Ex.pres_map r]; simp
theorem Ex.pres_snoc {l : List Ex} {k : Nat} (h : k < l.length) : Ex.pres (l.take (k + 1)) = Ex.pres (l.take k) ++ l[k].pre := by
  rw [Ex.pres_map, Ex.pres_map, take_snoc l k h, List.flatMap_append]; simp
theorem Ex.pre_pos (x : Ex) : 0 < x.pre.length := by rw [x.pre_eq]; simp
theorem Ex.pre_kid {x y : Ex} (h : y ∈ x.kids) : y.pre.length < x.pre.length := by
  rw [x.pre_eq, Ex.pres_map]
  obtain ⟨a, b, e⟩ := List.append_of_mem h
  rw [e]; simp [List.length_flatMap]; omega
theorem Ex.pre_sub {x y z : Ex} (h : y ∈ x.kids) (k : z ∈ y.pre) : z ∈ x.pre := by
  rw [x.pre_eq, Ex.pres_map]
  exact List.mem_cons_of_mem _ (List.mem_flatMap.2 ⟨y, h, k⟩)
theorem Ex.kids_len (x : Ex) : x.kids.length < x.pre.length := by
  rw [x.pre_eq, Ex.pres_map]
  have : ∀ l : List Ex, l.length ≤ (l.flatMap Ex.pre).length := by
    intro l
    induction l with
    | nil => simp
    | cons y r ih => have := y.pre_pos; rw [List.flatMap_cons, List.length_append, List.length_cons]; omega
  have := this x.kids
  rw [List.length_cons]; omega
/-- Expressions are handed on, one behind the other, until one says no. -/
def runY : List (List V) → List Ex → Bool × List (List V)
  | xs, [] => (true, xs)
  | xs, y :: ys => if Amb.go (xs ++ [[y.v]]) = true then runY (xs ++ [[y.v]]) ys else (false, xs ++ [[y.v]])
theorem runY_yes {y : Ex} {ys : List Ex} {xs : List (List V)} (h : Amb.go (xs ++ [[y.v]]) = true) : runY xs (y :: ys) = runY (xs ++ [[y.v]]) ys := by rw [runY, if_pos h]
theorem runY_no {y : Ex} {ys : List Ex} {xs : List (List V)} (h : ¬ Amb.go (xs ++ [[y.v]]) = true) : runY xs (y :: ys) = (false, xs ++ [[y.v]]) := by rw [runY, if_neg h]
theorem runY_append_yes : ∀ (l1 l2 : List Ex) (xs : List (List V)), (runY xs l1).1 = true → runY xs (l1 ++ l2) = runY (runY xs l1).2 l2
  | [], l2, xs, _ => rfl
  | y :: ys, l2, xs, k => by
    by_cases h : Amb.go (xs ++ [[y.v]]) = true
    · rw [runY_yes h] at k ⊢; rw [List.cons_append, runY_yes h]; exact runY_append_yes ys l2 _ k
    · rw [runY_no h] at k; cases k
theorem runY_append_no : ∀ (l1 l2 : List Ex) (xs : List (List V)), (runY xs l1).1 = false → runY xs (l1 ++ l2) = runY xs l1
  | [], l2, xs, k => by cases k
  | y :: ys, l2, xs, k => by
    by_cases h : Amb.go (xs ++ [[y.v]]) = true
    · rw [runY_yes h] at k ⊢; rw [List.cons_append, runY_yes h]; exact runY_append_no ys l2 _ k
    · rw [runY_no h, List.cons_append, runY_no h]
def Wents (xs : List (List V)) : Prop := ∀ m, 0 < m → m ≤ xs.length → Amb.go (xs.take m) = true
theorem Wents.snoc {xs : List (List V)} {a : List V} (h : Wents xs) (k : Amb.go (xs ++ [a]) = true) : Wents (xs ++ [a]) := fun m h0 hm => by
  by_cases e : m ≤ xs.length
  · rw [List.take_append_of_le_length e]; exact h m h0 e
  · have : m = (xs ++ [a]).length := by simp at hm ⊢; omega
    rw [this, List.take_length]; exact k
theorem runY_went : ∀ (l : List Ex) (xs : List (List V)), Wents xs → (runY xs l).1 = true → Wents (runY xs l).2
  | [], xs, h, _ => h
  | y :: ys, xs, h, k => by
    by_cases hg : Amb.go (xs ++ [[y.v]]) = true
    · rw [runY_yes hg] at k ⊢; exact runY_went ys _ (h.snoc hg) k
    · rw [runY_no hg] at k; cases k
abbrev walkH (xs : List (List V)) : List Ob := [.box [.yld 1], .hist xs, .box [.fn (.func 91) [] [.ptr 0 0, .ptr 2 0]]]
theorem walk_c (N : Nat) : ∀ (x : Ex) (xs : List (List V)), x.pre.length ≤ N → x.pre.length < 1073741824 → Wents xs → (∀ zs y, y ∈ x.pre → Amb.ok Tryz.prog (zs ++ [[y.v]])) →
    PFun Tryz.prog 91 [x.v, .ptr 0 0, .ptr 2 0] (walkH xs) (.d (.bool (runY xs x.pre).1)) (walkH (runY xs x.pre).2) := by
  induction N with
  | zero => intro x xs h; have := x.pre_pos; omega
  | succ N ih =>
    intro x xs hN hB hw hok
    have hkl := x.kids_len
    refine fn_sem pok 23 3 Tryz.func91 (by kernel_rfl) rfl rfl rfl rfl ?_
    refine SWp.go pok (by kernel_rfl) ?_
    refine ⟨⟨hok xs x (by rw [x.pre_eq]; exact List.mem_cons_self), hw⟩, brP_split (fun h => ?_) (fun h => ?_)⟩
    · have hw1 := hw.snoc h
      have hr0 : runY xs x.pre = runY (xs ++ [[x.v]]) (Ex.pres x.kids) := by rw [x.pre_eq, runY_yes h]
      refine SWp.loop (fun k : Nat => k ≤ x.kids.length ∧ (runY (xs ++ [[x.v]]) (Ex.pres (x.kids.take k))).1 = true)
        (fun k => ([(1, .ptr 0 0), (2, .ptr 2 0), (12, .d (.sl (x.kids.map Ex.e))), (13, iv (x.kids.map Ex.e).length), (14, iv k)], walkH (runY (xs ++ [[x.v]]) (Ex.pres (x.kids.take k))).2))
        (fun k => x.kids.length - k) 0 ⟨Nat.zero_le _, by simp [Ex.pres, runY]⟩ (.inr ⟨[0, 1, 2], ⟨rfl, rfl⟩, rfl, rfl, rfl, rfl, rfl, rfl, trivial⟩) (fun k hk => ?_)
      obtain ⟨hj, hk⟩ := hk
      refine SWp.go pok (by kernel_rfl) ?_
      refine brP_split (fun h2 => ?_) (fun h2 => ?_)
      · have hlt : k < x.kids.length := by simpa using h2
        have hm := List.getElem_mem hlt
        have hsn := Ex.pres_snoc hlt
        have hlk := Ex.pre_kid hm
        have hap := runY_append_yes (Ex.pres (x.kids.take k)) x.kids[k].pre (xs ++ [[x.v]]) hk
        rw [← hsn] at hap
        refine PIdx.ex hlt ?_
        refine PFun.call (ih x.kids[k] (runY (xs ++ [[x.v]]) (Ex.pres (x.kids.take k))).2 (by omega) (by omega) (runY_went _ _ hw1 hk) (fun zs y hy => hok zs y (Ex.pre_sub hm hy))) ?_
        rw [← hap]
        refine brP_split (fun h3 => ?_) (fun h3 => ?_)
        · have h3 : (runY (xs ++ [[x.v]]) (Ex.pres (x.kids.take (k + 1)))).1 = false := by simpa using h3
          have hfin : runY xs x.pre = runY (xs ++ [[x.v]]) (Ex.pres (x.kids.take (k + 1))) := by
            rw [hr0]
            have e1 : x.kids = x.kids.take (k + 1) ++ x.kids.drop (k + 1) := (List.take_append_drop _ _).symm
            have e2 : Ex.pres x.kids = Ex.pres (x.kids.take (k + 1)) ++ Ex.pres (x.kids.drop (k + 1)) := by
              rw [Ex.pres_map, Ex.pres_map, Ex.pres_map, ← List.flatMap_append, ← e1]
            rw [e2, runY_append_no _ _ _ h3]
          exact ⟨by rw [hfin, h3], by rw [hfin]⟩
        · exact ⟨k + 1, ⟨hlt, by simpa using h3⟩, by omega, .inr ⟨[0, 1, 2], ⟨rfl, rfl⟩, rfl, rfl, rfl, rfl, rfl, sint (wrap_nat k (by omega)), trivial⟩⟩
      · have hk' : x.kids.take k = x.kids := List.take_of_length_le (by simp at h2; omega)
        rw [hk'] at hk ⊢
        exact ⟨by rw [hr0, hk], by rw [hr0]⟩
    · have hr0 : runY xs x.pre = (false, xs ++ [[x.v]]) := by rw [x.pre_eq, runY_no (fun e => absurd (e.symm.trans h) (by simp))]
      exact ⟨by rw [hr0], by rw [hr0]; rfl⟩
end Go.Proofs.YtmflfcbebeikcaaGreat.Q

namespace Go.Proofs.YtmflfcbebeikcaaGreat.Q
open Go.RowKit
variable [Amb]
def isName (s : Str) : Bool := !(s == []) && decide (s.length ≤ 32) && (classS ((s.headD 0).toNat : Int) == 3) && !isWord s && (spanF inNameS 0 s == s.length)
theorem lexName_c (s : Str) (hs : s.length < 1073741824) : PFun Tryz.prog 73 [sv' s] [] (.d (.bool (isName s))) [] := by
  refine fn_sem pok 25 0 Tryz.func73 (by kernel_rfl) rfl rfl rfl rfl ?_
  refine SWp.go pok (by kernel_rfl) ?_
  refine brP_split (fun h => ?_) (fun h => ?_)
  · exact fin1 (dbool (by simp only [isName, h]; rfl))
  · have hne : s ≠ [] := by simpa using h
    refine brP_split (fun h1 => ?_) (fun h1 => ?_)
    · have : ¬ s.length ≤ 32 := by simp at h1; omega
      exact fin1 (dbool (by simp [isName, this]))
    · have h32 : s.length ≤ 32 := by simp at h1; omega
      have hh : s[0]? = some (s.headD 0) := by cases s with | nil => exact absurd rfl hne | cons b r => rfl
      refine PIdx.at hh ?_
      refine PFun.call (classOf_c _) ?_
      refine brP_split (fun h2 => ?_) (fun h2 => ?_)
      · have h2 : (classS ((s.headD 0).toNat : Int) == 3) = false := by simpa using h2
        exact fin1 (dbool (by simp only [isName, h2]; simp))
      · have h2 : (classS ((s.headD 0).toNat : Int) == 3) = true := by simpa using h2
        refine PFun.call (word_c s) ?_
        refine brP_split (fun h3 => ?_) (fun h3 => ?_)
        · exact fin1 (dbool (by simp [isName, h3]))
        · refine PFun.call (span_c _ inNameS inName_c s 0 (Nat.zero_le _) hs) ?_
          refine brP_split (fun h4 => ?_) (fun h4 => ?_)
          · have e4 : (spanF inNameS 0 s == s.length) = true := by simp at h4 ⊢; omega
            exact fin1 (dbool (by simp only [isName, h2, h3, e4, decide_eq_true h32, beq_eq_false_iff_ne.2 hne]; rfl))
          · have e4 : (spanF inNameS 0 s == s.length) = false := by simp at h4 ⊢; omega
            exact fin1 (dbool (by simp only [isName, e4, Bool.and_false]))
end Go.Proofs.YtmflfcbebeikcaaGreat.Q

namespace Go.Proofs.YtmflfcbebeikcaaGreat.Q
open Go.RowKit
variable [Amb]
def partsL : List Int := [-1, 0, 0, 0, 0, 1, 1, 1, 2, 2, 2, 2, 2, 2, 2, 2, 2, 2]
/-- How many parts a kind of expressions has. -/
def partsS (op : Int) : Int := if op < 0 then -1 else if 18 ≤ op then -1 else partsL.getD op.toNat (-1)
theorem parts_c (op : Int) : PFun Tryz.prog 92 [iv op] [] (iv (partsS op)) [] := by
  refine fn_sem pok 14 0 Tryz.func92 (by kernel_rfl) rfl rfl rfl rfl ?_
  by_cases h0 : op < 0
  · refine SWp.go pok (by kernel_rfl) ?_
    refine brP_true (decide_eq_true h0) ?_
    exact fin1 (dint (by rw [partsS, if_pos h0]))
  by_cases h1 : 18 ≤ op
  · refine SWp.go pok (by kernel_rfl) ?_
    refine brP_false (decide_eq_false h0) ?_
    refine brP_true (decide_eq_true (by omega)) ?_
    exact fin1 (dint (by rw [partsS, if_neg h0, if_pos h1]))
  have : op = 0 ∨ op = 1 ∨ op = 2 ∨ op = 3 ∨ op = 4 ∨ op = 5 ∨ op = 6 ∨ op = 7 ∨ op = 8 ∨ op = 9 ∨ op = 10 ∨ op = 11 ∨ op = 12 ∨ op = 13 ∨ op = 14 ∨ op = 15 ∨ op = 16 ∨ op = 17 := by omega
  rcases this with rfl | rfl | rfl | rfl | rfl | rfl | rfl | rfl | rfl | rfl | rfl | rfl | rfl | rfl | rfl | rfl | rfl | rfl <;>
  · refine SWp.go pok (by kernel_rfl) ?_
    exact ⟨by decide, fin1 rfl⟩
/-- Whether an expression has its shape, its parts aside. -/
def isPartS (x : Ex) : Bool :=
  ((x.kids.length : Int) == partsS x.op) && (bif x.op == 4 then isName x.mon && isName x.name else (x.mon == []) && (x.name == [])) && (decide (x.n ≥ 0) && ((x.op == 1) || (x.op == 7) || (x.n == 0)))
theorem isPart_c (x : Ex) (hk : x.kids.length < 1073741824) (hm : x.mon.length < 1073741824) (hn : x.name.length < 1073741824) : PFun Tryz.prog 56 [x.v] [] (.d (.bool (isPartS x))) [] := by
  refine fn_sem pok 62 0 Tryz.func56 (by kernel_rfl) rfl rfl rfl rfl ?_
  refine SWp.go pok (by kernel_rfl) ?_
  repeat' first
    | refine brP_split (fun h => ?_) (fun h => ?_)
    | refine PFun.call (lexName_c x.mon hm) ?_
    | refine PFun.call (lexName_c x.name hn) ?_
    | refine ⟨_, _, parts_c x.op, ?_⟩
  all_goals
    refine fin1 (dbool ?_)
    unfold isPartS
    simp_all
    try omega
end Go.Proofs.YtmflfcbebeikcaaGreat.Q

namespace Go.Proofs.YtmflfcbebeikcaaGreat.Q
open Go.RowKit
section
variable [Amb]
theorem all1_c (x : Ex) (hB : x.pre.length < 1073741824) (hok : ∀ zs y, y ∈ x.pre → Amb.ok Tryz.prog (zs ++ [[y.v]])) :
    PFun Tryz.prog 90 [.yld 1, .ptr 0 0] [.box x.cells, .hist []] (.tup []) [.box x.cells, .hist (runY [] x.pre).2] := by
  refine fn_sem pok 8 2 Tryz.func90 (by kernel_rfl) rfl rfl rfl rfl ?_
  refine SWp.go pok (by kernel_rfl) ?_
  refine PFun.call (walk_c _ x [] (Nat.le_refl _) hB (fun m h0 hm => by simp at hm; omega) hok) ?_
  exact ⟨rfl, rfl⟩
theorem all_c (x : Ex) : PFun Tryz.prog 55 [x.v] [] (.fn (.func 90) [] [.ptr 0 0]) [.box x.cells] := by
  refine fn_sem pok 4 0 Tryz.func55 (by kernel_rfl) rfl rfl rfl rfl ?_
  refine SWp.go pok (by kernel_rfl) ?_
  exact ⟨rfl, rfl⟩
end
/-! ### ranges over all parts -/
theorem runY_spec [Amb] (p : Ex → Bool) : ∀ (l : List Ex) (xs : List (List V)), (∀ zs y, y ∈ l → Amb.go (zs ++ [[y.v]]) = p y) →
    (l.all p = true → runY xs l = (true, xs ++ l.map fun y => [y.v])) ∧ (l.all p = false → ∃ zs y, y ∈ l ∧ p y = false ∧ runY xs l = (false, zs ++ [[y.v]]))
  | [], xs, _ => ⟨fun _ => by simp [runY], fun h => by simp at h⟩
  | y :: l, xs, hp => by
    have hg := hp xs y List.mem_cons_self
    have ih := runY_spec p l (xs ++ [[y.v]]) (fun zs z hz => hp zs z (List.mem_cons_of_mem _ hz))
    cases hy : p y with
    | true =>
      rw [hy] at hg
      rw [runY_yes hg]
      refine ⟨fun h => ?_, fun h => ?_⟩
      · rw [ih.1 (by simpa [hy] using h)]; simp
      · obtain ⟨zs, z, h1, h2⟩ := ih.2 (by simpa [hy] using h)
        exact ⟨zs, z, List.mem_cons_of_mem _ h1, h2⟩
    | false =>
      rw [hy] at hg
      rw [runY_no (by rw [hg]; simp)]
      exact ⟨fun h => by simp [hy] at h, fun _ => ⟨xs, y, List.mem_cons_self, hy, rfl⟩⟩
/-- The last that was handed on is not as it must be. -/
def BadLast (p : Ex → Bool) (xs : List (List V)) : Prop := ∃ zs y, xs = zs ++ [[Ex.v y]] ∧ p y = false
noncomputable def lastOr {α : Type} (p : Ex → Bool) (good bad : α) (xs : List (List V)) : α := @ite _ (BadLast p xs) (Classical.propDecidable _) bad good
theorem lastOr_snoc {α : Type} {p : Ex → Bool} (hp : ∀ y z : Ex, y.v = z.v → p y = p z) (good bad : α) (zs : List (List V)) (y : Ex) : lastOr p good bad (zs ++ [[y.v]]) = bif p y then good else bad := by
  unfold lastOr
  cases hy : p y with
  | true =>
    rw [if_neg]; rfl
    rintro ⟨zs', y', e, h⟩
    have e2 := (List.append_inj' e rfl).2
    injection e2 with e2; injection e2 with e2
    rw [hp y y' e2] at hy
    rw [hy] at h; cases h
  | false =>
    rw [if_pos ⟨zs, y, rfl, hy⟩]; rfl
theorem lastOr_nil {α : Type} {p : Ex → Bool} (good bad : α) : lastOr p good bad [] = good := by
  unfold lastOr
  rw [if_neg]
  rintro ⟨zs, y, e, _⟩
  have := congrArg List.length e
  simp at this
theorem lastOr_map {α β : Type} (f : α → β) {p : Ex → Bool} (good bad : α) (xs : List (List V)) : f (lastOr p good bad xs) = lastOr p (f good) (f bad) xs := by
  unfold lastOr
  by_cases h : BadLast p xs
  · rw [if_pos h, if_pos h]
  · rw [if_neg h, if_neg h]
theorem lastOr_cases {α : Type} (p : Ex → Bool) (good bad : α) (xs : List (List V)) : (lastOr p good bad xs = good ∧ ∀ {β : Type} (a b : β), lastOr p a b xs = a) ∨ (lastOr p good bad xs = bad ∧ ∀ {β : Type} (a b : β), lastOr p a b xs = b) := by
  by_cases h : BadLast p xs
  · exact .inr ⟨by unfold lastOr; rw [if_pos h], fun a b => by unfold lastOr; rw [if_pos h]⟩
  · exact .inl ⟨by unfold lastOr; rw [if_neg h], fun a b => by unfold lastOr; rw [if_neg h]⟩
/-- An expression that fits into memory. -/
def Ex.fits (x : Ex) : Prop := x.pre.length < 1073741824 ∧ ∀ y ∈ x.pre, y.kids.length < 1073741824 ∧ y.mon.length < 1073741824 ∧ y.name.length < 1073741824
theorem isPartS_v (y z : Ex) (h : y.v = z.v) : isPartS y = isPartS z := by
  unfold Ex.v at h
  simp only [V.agg.injEq, List.cons.injEq, V.d.injEq, D.int.injEq, D.str.injEq, D.sl.injEq, true_and, and_true] at h
  obtain ⟨h1, h2, h3, h4, h5, h6⟩ := h
  have h5 := congrArg List.length h5
  simp at h5
  unfold isPartS
  rw [h1, h2, h3, h4, h5]
/-- Whether an expression has its shape: 0; else 20. -/
def checkS (x : Ex) : Int := bif x.pre.all isPartS then 0 else 20
theorem checkExpr_c [Amb] (x : Ex) (hx : x.fits) : PFun Tryz.prog 27 [x.v] [] (iv (checkS x)) [] := by
  refine fn_sem pok 10 0 Tryz.func27 (by kernel_rfl) rfl rfl rfl rfl ?_
  refine SWp.go pok (by kernel_rfl) ?_
  refine PFun.call (all_c x) ?_
  refine SWp.range 90 [.ptr 2 0] rfl rfl (by decide) (lastOr isPartS .normal .ret) (lastOr_nil _ _) (fun xs => ∃ zs y, y ∈ x.pre ∧ xs = zs ++ [[y.v]])
    (fun xs a ⟨zs, y, _, e⟩ => by have := (List.append_inj' e rfl).2; injection this with this; rw [this]; rfl)
    (lastOr isPartS [.box x.cells, .box [iv 0], .dead] [.box x.cells, .box [iv 20], .dead]) (fun xs => by rw [lastOr_map List.length]; rcases lastOr_cases isPartS 3 3 xs with h | h <;> exact h.1)
    (fun xs => lastOr isPartS 0 20 xs = checkS x) (fun l xs a hok hfin => ?_) ?_ (fun xs hz => ?_)
  · obtain ⟨zs, y, hy, e⟩ := hok
    obtain ⟨e1, e2⟩ := List.append_inj' e rfl
    injection e2 with e2
    subst e1; subst e2
    have hf := hx.2 y hy
    have hst : ∀ {β : Type} (a b : β), lastOr isPartS a b xs = a := by
      rcases lastOr_cases isPartS PX.normal PX.ret xs with h | h
      · exact h.2
      · rw [h.1] at hfin; cases hfin
    unfold roundQ
    rw [hst, lastOr_snoc isPartS_v, lastOr_snoc isPartS_v]
    refine SWp.go pok (by kernel_rfl) ?_
    refine SWp.go pok (by kernel_rfl) ?_
    refine PFun.call (isPart_c y hf.1 hf.2.1 hf.2.2) ?_
    refine brP_split (fun h => ?_) (fun h => ?_)
    · have h : isPartS y = false := by simpa using h
      exact ⟨by rw [h]; rfl, .inr ⟨[0, 1, 2], ⟨rfl, rfl⟩, by rw [h]; rfl, trivial⟩⟩
    · have h : isPartS y = true := by simpa using h
      exact ⟨by rw [h]; rfl, .inr ⟨[0, 1, 2], ⟨rfl, rfl⟩, by rw [h]; rfl, trivial⟩⟩
  · refine ⟨lastOr_nil _ _, rfl, fun A' _ _ hgo hok => ?_⟩
    refine PCalls.mono (@all1_c A' x hx.1 (fun zs y hy => by rw [hok]; exact ⟨rfl, zs, y, hy, rfl⟩)) ?_
    rintro r h' ⟨_, rfl⟩
    refine ⟨_, [.box x.cells], rfl, rfl, ?_⟩
    have sp := @runY_spec A' isPartS x.pre [] (fun zs y hy => by
      rw [hgo]
      show (lastOr isPartS PX.normal PX.ret (zs ++ [[y.v]])).goes = _
      rw [lastOr_snoc isPartS_v]; cases isPartS y <;> rfl)
    unfold checkS
    cases hall : x.pre.all isPartS with
    | true =>
      rw [sp.1 hall]
      show lastOr isPartS 0 20 ([] ++ x.pre.map fun y => [y.v]) = 0
      rcases List.eq_nil_or_concat x.pre with h | ⟨l, z, h⟩
      · rw [h]; exact lastOr_nil _ _
      · rw [h, List.concat_eq_append] at hall ⊢
        rw [List.map_append, ← List.append_assoc]
        rw [List.map_cons, List.map_nil, lastOr_snoc isPartS_v]
        have : isPartS z = true := by rw [List.all_append] at hall; simp at hall; exact hall.2
        rw [this]; rfl
    | false =>
      obtain ⟨zs, z, _, h2, h3⟩ := sp.2 hall
      rw [h3]
      show lastOr isPartS 0 20 (zs ++ [[z.v]]) = 20
      rw [lastOr_snoc isPartS_v, h2]; rfl
  · rcases lastOr_cases isPartS PX.normal PX.ret xs with h | h
    · rw [h.1, h.2]
      rw [h.2] at hz
      exact fin1 (dint hz)
    · rw [h.1, h.2]
      rw [h.2] at hz
      exact fin1 (dint hz)
end Go.Proofs.YtmflfcbebeikcaaGreat.Q

namespace Go.Proofs.YtmflfcbebeikcaaGreat.Q
open Go.RowKit
variable [Amb]
/-- What a kind of statements has: a monitor's name, a name, a number, an expression; how many blocks. -/
structure Fo where
  mon : Bool
  name : Bool
  num : Bool
  ex : Bool
  fewest : Int
  most : Int
def Fo.v (f : Fo) : V := .agg [.d (.bool f.mon), .d (.bool f.name), .d (.bool f.num), .d (.bool f.ex), iv f.fewest, iv f.most]
def fo0 : Fo := ⟨false, false, false, false, 0, 0⟩
def formL : List Fo := [fo0, fo0, ⟨true, true, false, true, 0, 0⟩, ⟨false, false, false, true, 1, 2⟩, ⟨false, false, false, true, 1, 1⟩, ⟨false, false, false, false, 1, 1⟩, ⟨false, false, false, false, 1, 8⟩, ⟨true, false, false, false, 1, 1⟩, ⟨true, true, false, false, 0, 0⟩, ⟨true, false, true, false, 0, 0⟩, ⟨true, false, false, false, 0, 0⟩, ⟨true, false, false, false, 0, 0⟩]
def isKind (k : Int) : Bool := decide (1 ≤ k) && decide (k ≤ 11)
def formS (k : Int) : Fo := if 1 ≤ k ∧ k ≤ 11 then formL.getD k.toNat fo0 else fo0
theorem formOf_c (k : Int) : PFun Tryz.prog 130 [iv k] [] (.tup [(formS k).v, .d (.bool (isKind k))]) [] := by
  refine fn_sem pok 35 0 Tryz.func130 (by kernel_rfl) rfl rfl rfl rfl ?_
  by_cases h0 : k < 1
  · have e1 : formS k = fo0 := by unfold formS; rw [if_neg (by omega)]
    have e2 : isKind k = false := by unfold isKind; simp; omega
    rw [e1, e2]
    refine SWp.go pok (by kernel_rfl) ?_
    refine brP_true (decide_eq_true h0) ?_
    exact ⟨rfl, rfl⟩
  by_cases h1 : 12 ≤ k
  · have e1 : formS k = fo0 := by unfold formS; rw [if_neg (by omega)]
    have e2 : isKind k = false := by unfold isKind; simp; omega
    rw [e1, e2]
    refine SWp.go pok (by kernel_rfl) ?_
    refine brP_false (decide_eq_false h0) ?_
    refine brP_true (decide_eq_true h1) ?_
    exact ⟨rfl, rfl⟩
  have : k = 1 ∨ k = 2 ∨ k = 3 ∨ k = 4 ∨ k = 5 ∨ k = 6 ∨ k = 7 ∨ k = 8 ∨ k = 9 ∨ k = 10 ∨ k = 11 := by omega
  rcases this with rfl | rfl | rfl | rfl | rfl | rfl | rfl | rfl | rfl | rfl | rfl
  all_goals
    refine SWp.go pok (by kernel_rfl) ?_
    exact ⟨by decide, ⟨rfl, rfl⟩⟩
def isNameW (s : Str) (wanted : Bool) : Bool := if wanted then isName s else s == []
theorem isNameW_c (s : Str) (w : Bool) (hs : s.length < 1073741824) : PFun Tryz.prog 131 [sv' s, .d (.bool w)] [] (.d (.bool (isNameW s w))) [] := by
  refine fn_sem pok 11 0 Tryz.func131 (by kernel_rfl) rfl rfl rfl rfl ?_
  refine SWp.go pok (by kernel_rfl) ?_
  cases w with
  | true =>
    refine PFun.call (lexName_c s hs) ?_
    exact fin1 rfl
  | false =>
    refine brP_split (fun h => ?_) (fun h => ?_)
    · exact fin1 (dbool h.symm)
    · exact fin1 (dbool h.symm)
def isNoneS (e : Ex) : Bool := (e.op == 0) && (e.mon == []) && (e.name == []) && (e.n == 0) && ((e.kids.length : Int) == 0)
theorem isNone_c (e : Ex) : PFun Tryz.prog 132 [e.v] [] (.d (.bool (isNoneS e))) [] := by
  refine fn_sem pok 27 0 Tryz.func132 (by kernel_rfl) rfl rfl rfl rfl ?_
  refine SWp.go pok (by kernel_rfl) ?_
  repeat' refine brP_split (fun h => ?_) (fun h => ?_)
  all_goals
    refine fin1 (dbool ?_)
    unfold isNoneS
    simp_all
end Go.Proofs.YtmflfcbebeikcaaGreat.Q

namespace Go.Proofs.YtmflfcbebeikcaaGreat.Q
open Go.RowKit
variable [Amb]
def idxF {α : Type} (p : α → Bool) : Nat → List α → Int
  | _, [] => -1
  | k, a :: r => if p a = true then k else idxF p (k + 1) r
theorem idxF_at {α : Type} (p : α → Bool) {l : List α} {k : Nat} (h : k < l.length) : idxF p k (l.drop k) = if p l[k] = true then (k : Int) else idxF p (k + 1) (l.drop (k + 1)) := by
  rw [List.drop_eq_getElem_cons h]; rfl
theorem idxF_any {α : Type} (p : α → Bool) : ∀ (l : List α) (k : Nat), decide (idxF p k l ≥ 0) = l.any p
  | [], k => by rw [idxF]; rfl
  | a :: r, k => by
    rw [idxF, List.any_cons]
    by_cases h : p a = true
    · rw [if_pos h, h]; simp
    · rw [if_neg h, idxF_any p r (k + 1)]
      rw [Bool.not_eq_true] at h
      rw [h]; rfl

theorem St.inRow {l : List (St)} {k : Nat} {K : List D → Prop} (h : k < l.length) (c : K [.int .i64 l[k].kind, .str l[k].mon, .str l[k].name, .int .i64 l[k].n, .int .i64 l[k].e.op, .str l[k].e.mon, .str l[k].e.name, .int .i64 l[k].e.n, .sl (l[k].e.kids.map Ex.e), .int .i64 l[k].e.pl, .sl (l[k].blocks.map blk), .int .i64 l[k].pl]) : PIdx (l.map St.c) (k : Int) K := PIdx.map (get_at h) (by
  have e : St.c l[k] = [.int .i64 l[k].kind, .str l[k].mon, .str l[k].name, .int .i64 l[k].n, .int .i64 l[k].e.op, .str l[k].e.mon, .str l[k].e.name, .int .i64 l[k].e.n, .sl (l[k].e.kids.map Ex.e), .int .i64 l[k].e.pl, .sl (l[k].blocks.map blk), .int .i64 l[k].pl] := by rw [St.c_eq, Ex.e_row]; rfl
  rw [e]; exact c)
theorem idxOfSt_c (g : FuncId) (p : St → Bool) (l : List St) (h : ∀ a ∈ l, PFun Tryz.prog g [a.v] [] (.d (.bool (p a))) []) (hl : l.length < 1073741824) :
    PFun Tryz.prog 129 [.d (.sl (l.map St.c)), .fn (.func g) [] []] [] (iv (idxF p 0 l)) [] := by
  refine fn_sem pok 19 0 Tryz.func129 (by kernel_rfl) rfl rfl rfl rfl ?_
  refine SWp.go pok (by kernel_rfl) ?_
  refine SWp.loop (fun k : Nat => k ≤ l.length ∧ idxF p k (l.drop k) = idxF p 0 l) (fun k => ([(0, .d (.sl (l.map St.c))), (1, .fn (.func g) [] []), (7, iv (l.map St.c).length), (8, iv k)], [])) (fun k => l.length - k) 0 ⟨Nat.zero_le _, rfl⟩ (Le.same ⟨rfl, rfl, rfl, rfl, trivial⟩) (fun k hk => ?_)
  obtain ⟨hj, hk⟩ := hk
  refine SWp.go pok (by kernel_rfl) ?_
  refine brP_split (fun h2 => ?_) (fun h2 => ?_)
  · have hlt : k < l.length := by simpa using h2
    have hat := idxF_at p hlt
    refine St.inRow hlt ?_
    refine PFun.call (h l[k] (List.getElem_mem hlt)) ?_
    refine brP_split (fun h3 => ?_) (fun h3 => ?_)
    · exact fin1 (dint (by rw [← hk, hat, if_pos h3]))
    · exact ⟨k + 1, ⟨hlt, by rw [← hk, hat, if_neg (by rw [h3]; simp)]⟩, by omega, Le.same ⟨rfl, rfl, rfl, sint (wrap_nat k (by omega)), trivial⟩⟩
  · have hk' : k = l.length := by simp at h2; omega
    exact fin1 (dint (by rw [← hk, List.drop_of_length_le (by omega)]; rfl))
theorem anySt_c (g : FuncId) (p : St → Bool) (l : List St) (h : ∀ a ∈ l, PFun Tryz.prog g [a.v] [] (.d (.bool (p a))) []) (hl : l.length < 1073741824) :
    PFun Tryz.prog 107 [.d (.sl (l.map St.c)), .fn (.func g) [] []] [] (.d (.bool (l.any p))) [] := by
  refine fn_sem pok 9 0 Tryz.func107 (by kernel_rfl) rfl rfl rfl rfl ?_
  refine SWp.go pok (by kernel_rfl) ?_
  refine PFun.call (idxOfSt_c g p l h hl) ?_
  rw [← idxF_any p l 0]
  refine brP_split (fun h3 => ?_) (fun h3 => ?_)
  · exact fin1 (dbool h3.symm)
  · exact fin1 (dbool h3.symm)
theorem Vr.inRow {l : List (Vr)} {k : Nat} {K : List D → Prop} (h : k < l.length) (c : K [.str l[k].name, .int .i64 l[k].type, .int .i64 l[k].lo, .int .i64 l[k].hi, .int .i64 l[k].init, .int .i64 l[k].pl]) : PIdx (l.map Vr.c) (k : Int) K := PIdx.map (get_at h) (by
  have e : Vr.c l[k] = [.str l[k].name, .int .i64 l[k].type, .int .i64 l[k].lo, .int .i64 l[k].hi, .int .i64 l[k].init, .int .i64 l[k].pl] := rfl
  rw [e]; exact c)
theorem idxOfVr_c (g : FuncId) (p : Vr → Bool) (l : List Vr) (h : ∀ a ∈ l, PFun Tryz.prog g [a.v] [] (.d (.bool (p a))) []) (hl : l.length < 1073741824) :
    PFun Tryz.prog 110 [.d (.sl (l.map Vr.c)), .fn (.func g) [] []] [] (iv (idxF p 0 l)) [] := by
  refine fn_sem pok 19 0 Tryz.func110 (by kernel_rfl) rfl rfl rfl rfl ?_
  refine SWp.go pok (by kernel_rfl) ?_
  refine SWp.loop (fun k : Nat => k ≤ l.length ∧ idxF p k (l.drop k) = idxF p 0 l) (fun k => ([(0, .d (.sl (l.map Vr.c))), (1, .fn (.func g) [] []), (7, iv (l.map Vr.c).length), (8, iv k)], [])) (fun k => l.length - k) 0 ⟨Nat.zero_le _, rfl⟩ (Le.same ⟨rfl, rfl, rfl, rfl, trivial⟩) (fun k hk => ?_)
  obtain ⟨hj, hk⟩ := hk
  refine SWp.go pok (by kernel_rfl) ?_
  refine brP_split (fun h2 => ?_) (fun h2 => ?_)
  · have hlt : k < l.length := by simpa using h2
    have hat := idxF_at p hlt
    refine Vr.inRow hlt ?_
    refine PFun.call (h l[k] (List.getElem_mem hlt)) ?_
    refine brP_split (fun h3 => ?_) (fun h3 => ?_)
    · exact fin1 (dint (by rw [← hk, hat, if_pos h3]))
    · exact ⟨k + 1, ⟨hlt, by rw [← hk, hat, if_neg (by rw [h3]; simp)]⟩, by omega, Le.same ⟨rfl, rfl, rfl, sint (wrap_nat k (by omega)), trivial⟩⟩
  · have hk' : k = l.length := by simp at h2; omega
    exact fin1 (dint (by rw [← hk, List.drop_of_length_le (by omega)]; rfl))
theorem anyVr_c (g : FuncId) (p : Vr → Bool) (l : List Vr) (h : ∀ a ∈ l, PFun Tryz.prog g [a.v] [] (.d (.bool (p a))) []) (hl : l.length < 1073741824) :
    PFun Tryz.prog 76 [.d (.sl (l.map Vr.c)), .fn (.func g) [] []] [] (.d (.bool (l.any p))) [] := by
  refine fn_sem pok 9 0 Tryz.func76 (by kernel_rfl) rfl rfl rfl rfl ?_
  refine SWp.go pok (by kernel_rfl) ?_
  refine PFun.call (idxOfVr_c g p l h hl) ?_
  rw [← idxF_any p l 0]
  refine brP_split (fun h3 => ?_) (fun h3 => ?_)
  · exact fin1 (dbool h3.symm)
  · exact fin1 (dbool h3.symm)
theorem Mt.inRow {l : List (Mt)} {k : Nat} {K : List D → Prop} (h : k < l.length) (c : K [.str l[k].name, .sl (l[k].body.map St.c), .int .i64 l[k].pl]) : PIdx (l.map Mt.c) (k : Int) K := PIdx.map (get_at h) (by
  have e : Mt.c l[k] = [.str l[k].name, .sl (l[k].body.map St.c), .int .i64 l[k].pl] := rfl
  rw [e]; exact c)
theorem idxOfMt_c (g : FuncId) (p : Mt → Bool) (l : List Mt) (h : ∀ a ∈ l, PFun Tryz.prog g [a.v] [] (.d (.bool (p a))) []) (hl : l.length < 1073741824) :
    PFun Tryz.prog 111 [.d (.sl (l.map Mt.c)), .fn (.func g) [] []] [] (iv (idxF p 0 l)) [] := by
  refine fn_sem pok 19 0 Tryz.func111 (by kernel_rfl) rfl rfl rfl rfl ?_
  refine SWp.go pok (by kernel_rfl) ?_
  refine SWp.loop (fun k : Nat => k ≤ l.length ∧ idxF p k (l.drop k) = idxF p 0 l) (fun k => ([(0, .d (.sl (l.map Mt.c))), (1, .fn (.func g) [] []), (7, iv (l.map Mt.c).length), (8, iv k)], [])) (fun k => l.length - k) 0 ⟨Nat.zero_le _, rfl⟩ (Le.same ⟨rfl, rfl, rfl, rfl, trivial⟩) (fun k hk => ?_)
  obtain ⟨hj, hk⟩ := hk
  refine SWp.go pok (by kernel_rfl) ?_
  refine brP_split (fun h2 => ?_) (fun h2 => ?_)
  · have hlt : k < l.length := by simpa using h2
    have hat := idxF_at p hlt
    refine Mt.inRow hlt ?_
    refine PFun.call (h l[k] (List.getElem_mem hlt)) ?_
    refine brP_split (fun h3 => ?_) (fun h3 => ?_)
    · exact fin1 (dint (by rw [← hk, hat, if_pos h3]))
    · exact ⟨k + 1, ⟨hlt, by rw [← hk, hat, if_neg (by rw [h3]; simp)]⟩, by omega, Le.same ⟨rfl, rfl, rfl, sint (wrap_nat k (by omega)), trivial⟩⟩
  · have hk' : k = l.length := by simp at h2; omega
    exact fin1 (dint (by rw [← hk, List.drop_of_length_le (by omega)]; rfl))
theorem anyMt_c (g : FuncId) (p : Mt → Bool) (l : List Mt) (h : ∀ a ∈ l, PFun Tryz.prog g [a.v] [] (.d (.bool (p a))) []) (hl : l.length < 1073741824) :
    PFun Tryz.prog 79 [.d (.sl (l.map Mt.c)), .fn (.func g) [] []] [] (.d (.bool (l.any p))) [] := by
  refine fn_sem pok 9 0 Tryz.func79 (by kernel_rfl) rfl rfl rfl rfl ?_
  refine SWp.go pok (by kernel_rfl) ?_
  refine PFun.call (idxOfMt_c g p l h hl) ?_
  rw [← idxF_any p l 0]
  refine brP_split (fun h3 => ?_) (fun h3 => ?_)
  · exact fin1 (dbool h3.symm)
  · exact fin1 (dbool h3.symm)
theorem Mo.inRow {l : List (Mo)} {k : Nat} {K : List D → Prop} (h : k < l.length) (c : K [.str l[k].name, .sl (l[k].vars.map Vr.c), .sl (l[k].methods.map Mt.c), .int .i64 l[k].pl]) : PIdx (l.map Mo.c) (k : Int) K := PIdx.map (get_at h) (by
  have e : Mo.c l[k] = [.str l[k].name, .sl (l[k].vars.map Vr.c), .sl (l[k].methods.map Mt.c), .int .i64 l[k].pl] := rfl
  rw [e]; exact c)
theorem Ro.inRow {l : List (Ro)} {k : Nat} {K : List D → Prop} (h : k < l.length) (c : K [.str l[k].name, .bool l[k].star, .int .i64 l[k].count, .sl (l[k].body.map St.c), .int .i64 l[k].pl]) : PIdx (l.map Ro.c) (k : Int) K := PIdx.map (get_at h) (by
  have e : Ro.c l[k] = [.str l[k].name, .bool l[k].star, .int .i64 l[k].count, .sl (l[k].body.map St.c), .int .i64 l[k].pl] := rfl
  rw [e]; exact c)
theorem Bl.inRow {l : List (List St)} {k : Nat} {K : List D → Prop} (h : k < l.length) (c : K [.sl (l[k].map St.c)]) : PIdx (l.map blk) (k : Int) K := PIdx.map (get_at h) (by
  have e : blk l[k] = [.sl (l[k].map St.c)] := rfl
  rw [e]; exact c)

end Go.Proofs.YtmflfcbebeikcaaGreat.Q

namespace Go.Proofs.YtmflfcbebeikcaaGreat.Q
open Go.RowKit
variable [Amb]
def headOk (kind : Int) (mon name : Str) (n : Int) (e : Ex) (len : Nat) : Bool :=
  if isKind kind = false then false else if (len : Int) < (formS kind).fewest then false else if (len : Int) > (formS kind).most then false else
  if isNameW mon (formS kind).mon = false then false else if isNameW name (formS kind).name = false then false else if n < 0 then false else
  if (formS kind).num = false ∧ n ≠ 0 then false else if (formS kind).ex = true then (checkS e == 0) else isNoneS e
mutual
def St.ok : St → Bool
  | ⟨kind, mon, name, n, e, blocks, _⟩ => headOk kind mon name n e blocks.length && St.okB blocks
def St.okL : List St → Bool
  | [] => true
  | a :: r => a.ok && St.okL r
def St.okB : List (List St) → Bool
  | [] => true
  | b :: r => St.okL b && St.okB r
end
theorem St.okL_all : ∀ l : List St, St.okL l = l.all St.ok
  | [] => by rw [St.okL]; rfl
  | a :: r => by rw [St.okL, St.okL_all r]; rfl
theorem St.okB_all : ∀ l : List (List St), St.okB l = l.all St.okL
  | [] => by rw [St.okB]; rfl
  | a :: r => by rw [St.okB, St.okB_all r]; rfl
/-- What a statement holds is not too much for a machine. -/
inductive SF : St → Prop
  | mk {kind : Int} {mon name : Str} {n : Int} {e : Ex} {blocks : List (List St)} {pl : Int} (hm : mon.length < 1073741824) (hn : name.length < 1073741824) (he : e.fits) (hb : blocks.length < 1073741824) (hl : ∀ b ∈ blocks, b.length < 1073741824) (k : ∀ b ∈ blocks, ∀ y ∈ b, SF y) : SF ⟨kind, mon, name, n, e, blocks, pl⟩
theorem not_any {α : Type} (p : α → Bool) : ∀ l : List α, (!(l.any fun a => !p a)) = l.all p
  | [] => rfl
  | a :: r => by rw [List.any_cons, List.all_cons, ← not_any p r]; simp
theorem areStmts_of (l : List St) (hl : l.length < 1073741824) (h : ∀ y ∈ l, PFun Tryz.prog 109 [y.v] [] (.d (.bool y.ok)) []) : PFun Tryz.prog 75 [.d (.sl (l.map St.c))] [] (.d (.bool (St.okL l))) [] := by
  have hg : ∀ y ∈ l, PFun Tryz.prog 108 [y.v] [] (.d (.bool (!y.ok))) [] := fun y hy => by
    refine fn_sem pok 6 0 Tryz.func108 (by kernel_rfl) rfl rfl rfl rfl ?_
    refine SWp.go pok (by kernel_rfl) ?_
    refine PFun.call (h y hy) ?_
    refine brP_split (fun h3 => ?_) (fun h3 => ?_)
    · exact fin1 (dbool h3.symm)
    · exact fin1 (dbool h3.symm)
  rw [St.okL_all, ← not_any]
  refine fn_sem pok 6 0 Tryz.func75 (by kernel_rfl) rfl rfl rfl rfl ?_
  refine SWp.go pok (by kernel_rfl) ?_
  refine PFun.call (anySt_c _ (fun y => !y.ok) l hg hl) ?_
  refine brP_split (fun h3 => ?_) (fun h3 => ?_)
  · exact fin1 (dbool h3.symm)
  · exact fin1 (dbool h3.symm)
theorem isStmt_c {s : St} (hs : SF s) : PFun Tryz.prog 109 [s.v] [] (.d (.bool s.ok)) [] := by
  induction hs with
  | @mk kind mon name n e blocks pl hm hn he hb hl k ih =>
    rw [St.ok]
    refine fn_sem pok 95 0 Tryz.func109 (by kernel_rfl) rfl rfl rfl rfl ?_
    refine SWp.go pok (by kernel_rfl) ?_
    have c0 := formOf_c kind
    unfold headOk
    generalize formS kind = f at c0 ⊢
    obtain ⟨f1, f2, f3, f4, f5, f6⟩ := f
    cases hK : isKind kind with
    | false =>
      rw [hK] at c0
      refine PFun.call c0 ?_
      exact fin1 rfl
    | true =>
      rw [hK] at c0
      refine PFun.call c0 ?_
      rw [if_neg (by simp)]
      dsimp only
      refine brP_split (fun h => ?_) (fun h => ?_)
      · rw [if_pos (by simpa using h)]
        exact fin1 rfl
      rw [if_neg (by simpa using h)]
      refine brP_split (fun h => ?_) (fun h => ?_)
      · rw [if_pos (by simpa using h)]
        exact fin1 rfl
      rw [if_neg (by simpa using h)]
      refine ⟨by decide, ?_⟩
      refine PFun.call (isNameW_c mon f1 hm) ?_
      cases h1 : isNameW mon f1 with
      | false =>
        rw [if_pos rfl]
        exact fin1 rfl
      | true =>
      rw [if_neg (by simp)]
      refine ⟨by decide, ?_⟩
      refine PFun.call (isNameW_c name f2 hn) ?_
      cases h2 : isNameW name f2 with
      | false =>
        rw [if_pos rfl]
        exact fin1 rfl
      | true =>
      rw [if_neg (by simp)]
      refine brP_split (fun h => ?_) (fun h => ?_)
      · rw [if_pos (by simpa using h)]
        exact fin1 rfl
      rw [if_neg (by simpa using h)]
      refine ⟨by decide, ?_⟩
      have hex : ∀ {g : Bool}, (if g = true then (checkS e == 0) else isNoneS e) = (bif g then (checkS e == 0) else isNoneS e) := fun {g} => by cases g <;> rfl
      rw [hex]
      have hdrop : ∀ {j : Nat} (h : j < blocks.length), St.okB (blocks.drop j) = (St.okL blocks[j] && St.okB (blocks.drop (j + 1))) := fun {j} h => by rw [List.drop_eq_getElem_cons h, St.okB]
      have hare : ∀ b ∈ blocks, PFun Tryz.prog 75 [.d (.sl (b.map St.c))] [] (.d (.bool (St.okL b))) [] := fun b hb' => areStmts_of b (hl b hb') (ih b hb')
      cases f3 with
      | true =>
        rw [if_neg (by simp)]
        refine ⟨by decide, ?_⟩
        cases f4 with
        | true =>
          refine PFun.call (checkExpr_c e he) ?_
          refine brP_split (fun h7 => ?_) (fun h7 => ?_)
          · have h7 : (checkS e == 0) = false := by simpa using h7
            exact fin1 (dbool (by rw [h7]; rfl))
          have h7 : (checkS e == 0) = true := by simpa using h7
          rw [h7]
          refine ⟨by decide, ?_⟩
          refine SWp.loop (fun k : Nat => k ≤ blocks.length ∧ St.okB (blocks.drop k) = St.okB blocks) (fun k => ([(85, .d (.sl (blocks.map blk))), (86, iv blocks.length), (87, iv k)], [])) (fun k => blocks.length - k) 0 ⟨Nat.zero_le _, rfl⟩ (.inr ⟨[], ⟨rfl, rfl⟩, rfl, rfl, sint (by rw [List.length_map]), rfl, trivial⟩) (fun j hj => ?_)
          obtain ⟨hj, hk⟩ := hj
          refine SWp.go pok (by kernel_rfl) ?_
          refine brP_split (fun h2 => ?_) (fun h2 => ?_)
          · have hlt : j < blocks.length := by simpa using h2
            refine Bl.inRow hlt ?_
            refine PFun.call (hare blocks[j] (List.getElem_mem hlt)) ?_
            refine brP_split (fun h3 => ?_) (fun h3 => ?_)
            · have h3 : St.okL blocks[j] = false := by simpa using h3
              exact fin1 (dbool (by rw [← hk, hdrop hlt, h3]; rfl))
            · have h3 : St.okL blocks[j] = true := by simpa using h3
              exact ⟨j + 1, ⟨hlt, by rw [← hk, hdrop hlt, h3]; rfl⟩, by omega, Le.same ⟨rfl, rfl, sint (wrap_nat j (by omega)), trivial⟩⟩
          · have hj' : j = blocks.length := by simp at h2; omega
            subst hj'
            exact fin1 (dbool (by rw [← hk, List.drop_of_length_le (Nat.le_refl _), St.okB]; rfl))
        | false =>
          refine ⟨by decide, ?_⟩
          refine PFun.call (isNone_c e) ?_
          refine brP_split (fun h7 => ?_) (fun h7 => ?_)
          · have h7 : isNoneS e = false := by simpa using h7
            exact fin1 (dbool (by rw [h7]; rfl))
          have h7 : isNoneS e = true := by simpa using h7
          rw [h7]
          refine SWp.loop (fun k : Nat => k ≤ blocks.length ∧ St.okB (blocks.drop k) = St.okB blocks) (fun k => ([(85, .d (.sl (blocks.map blk))), (86, iv blocks.length), (87, iv k)], [])) (fun k => blocks.length - k) 0 ⟨Nat.zero_le _, rfl⟩ (.inr ⟨[], ⟨rfl, rfl⟩, rfl, rfl, sint (by rw [List.length_map]), rfl, trivial⟩) (fun j hj => ?_)
          obtain ⟨hj, hk⟩ := hj
          refine SWp.go pok (by kernel_rfl) ?_
          refine brP_split (fun h2 => ?_) (fun h2 => ?_)
          · have hlt : j < blocks.length := by simpa using h2
            refine Bl.inRow hlt ?_
            refine PFun.call (hare blocks[j] (List.getElem_mem hlt)) ?_
            refine brP_split (fun h3 => ?_) (fun h3 => ?_)
            · have h3 : St.okL blocks[j] = false := by simpa using h3
              exact fin1 (dbool (by rw [← hk, hdrop hlt, h3]; rfl))
            · have h3 : St.okL blocks[j] = true := by simpa using h3
              exact ⟨j + 1, ⟨hlt, by rw [← hk, hdrop hlt, h3]; rfl⟩, by omega, Le.same ⟨rfl, rfl, sint (wrap_nat j (by omega)), trivial⟩⟩
          · have hj' : j = blocks.length := by simp at h2; omega
            subst hj'
            exact fin1 (dbool (by rw [← hk, List.drop_of_length_le (Nat.le_refl _), St.okB]; rfl))
      | false =>
        refine brP_split (fun h => ?_) (fun h => ?_)
        · rw [if_pos ⟨rfl, by simpa using h⟩]
          exact fin1 rfl
        rw [if_neg (by simp at h; simp [h])]
        refine ⟨by decide, ?_⟩
        cases f4 with
        | true =>
          refine PFun.call (checkExpr_c e he) ?_
          refine brP_split (fun h7 => ?_) (fun h7 => ?_)
          · have h7 : (checkS e == 0) = false := by simpa using h7
            exact fin1 (dbool (by rw [h7]; rfl))
          have h7 : (checkS e == 0) = true := by simpa using h7
          rw [h7]
          refine ⟨by decide, ?_⟩
          refine SWp.loop (fun k : Nat => k ≤ blocks.length ∧ St.okB (blocks.drop k) = St.okB blocks) (fun k => ([(85, .d (.sl (blocks.map blk))), (86, iv blocks.length), (87, iv k)], [])) (fun k => blocks.length - k) 0 ⟨Nat.zero_le _, rfl⟩ (.inr ⟨[], ⟨rfl, rfl⟩, rfl, rfl, sint (by rw [List.length_map]), rfl, trivial⟩) (fun j hj => ?_)
          obtain ⟨hj, hk⟩ := hj
          refine SWp.go pok (by kernel_rfl) ?_
          refine brP_split (fun h2 => ?_) (fun h2 => ?_)
          · have hlt : j < blocks.length := by simpa using h2
            refine Bl.inRow hlt ?_
            refine PFun.call (hare blocks[j] (List.getElem_mem hlt)) ?_
            refine brP_split (fun h3 => ?_) (fun h3 => ?_)
            · have h3 : St.okL blocks[j] = false := by simpa using h3
              exact fin1 (dbool (by rw [← hk, hdrop hlt, h3]; rfl))
            · have h3 : St.okL blocks[j] = true := by simpa using h3
              exact ⟨j + 1, ⟨hlt, by rw [← hk, hdrop hlt, h3]; rfl⟩, by omega, Le.same ⟨rfl, rfl, sint (wrap_nat j (by omega)), trivial⟩⟩
          · have hj' : j = blocks.length := by simp at h2; omega
            subst hj'
            exact fin1 (dbool (by rw [← hk, List.drop_of_length_le (Nat.le_refl _), St.okB]; rfl))
        | false =>
          refine ⟨by decide, ?_⟩
          refine PFun.call (isNone_c e) ?_
          refine brP_split (fun h7 => ?_) (fun h7 => ?_)
          · have h7 : isNoneS e = false := by simpa using h7
            exact fin1 (dbool (by rw [h7]; rfl))
          have h7 : isNoneS e = true := by simpa using h7
          rw [h7]
          refine SWp.loop (fun k : Nat => k ≤ blocks.length ∧ St.okB (blocks.drop k) = St.okB blocks) (fun k => ([(85, .d (.sl (blocks.map blk))), (86, iv blocks.length), (87, iv k)], [])) (fun k => blocks.length - k) 0 ⟨Nat.zero_le _, rfl⟩ (.inr ⟨[], ⟨rfl, rfl⟩, rfl, rfl, sint (by rw [List.length_map]), rfl, trivial⟩) (fun j hj => ?_)
          obtain ⟨hj, hk⟩ := hj
          refine SWp.go pok (by kernel_rfl) ?_
          refine brP_split (fun h2 => ?_) (fun h2 => ?_)
          · have hlt : j < blocks.length := by simpa using h2
            refine Bl.inRow hlt ?_
            refine PFun.call (hare blocks[j] (List.getElem_mem hlt)) ?_
            refine brP_split (fun h3 => ?_) (fun h3 => ?_)
            · have h3 : St.okL blocks[j] = false := by simpa using h3
              exact fin1 (dbool (by rw [← hk, hdrop hlt, h3]; rfl))
            · have h3 : St.okL blocks[j] = true := by simpa using h3
              exact ⟨j + 1, ⟨hlt, by rw [← hk, hdrop hlt, h3]; rfl⟩, by omega, Le.same ⟨rfl, rfl, sint (wrap_nat j (by omega)), trivial⟩⟩
          · have hj' : j = blocks.length := by simp at h2; omega
            subst hj'
            exact fin1 (dbool (by rw [← hk, List.drop_of_length_le (Nat.le_refl _), St.okB]; rfl))
end Go.Proofs.YtmflfcbebeikcaaGreat.Q

namespace Go.Proofs.YtmflfcbebeikcaaGreat.Q
open Go.RowKit
variable [Amb]
def Vr.ok (v : Vr) : Bool :=
  isName v.name && (!(minI v.lo [v.hi, v.init] == -9223372036854775808)) &&
  (if v.type = 1 then ((v.lo == 0) && (v.hi == 0)) && ((v.init == 0) || (v.init == 1)) else if v.type = 2 then (v.lo == 0) && (v.hi == 0) else if v.type = 3 then decide (v.lo ≤ v.hi) else false)
theorem isVar_c (v : Vr) (hn : v.name.length < 1073741824) : PFun Tryz.prog 78 [v.v] [] (.d (.bool v.ok)) [] := by
  unfold Vr.ok
  generalize hmin : minI v.lo [v.hi, v.init] = z
  refine fn_sem pok 51 0 Tryz.func78 (by kernel_rfl) rfl rfl rfl rfl ?_
  refine SWp.go pok (by kernel_rfl) ?_
  refine PFun.call (lexName_c v.name hn) ?_
  cases h1 : isName v.name with
  | false => exact fin1 rfl
  | true =>
  refine brP_split (fun h2 => ?_) (fun h2 => ?_)
  · have h2 : (z == -9223372036854775808) = true := by rw [← hmin]; exact h2
    exact fin1 (dbool (by rw [h2]; rfl))
  have h2 : (z == -9223372036854775808) = false := by rw [← hmin]; exact h2
  rw [h2]
  repeat' refine brP_split (fun h => ?_) (fun h => ?_)
  all_goals
    refine fin1 (dbool ?_)
    simp_all
structure BF (l : List St) : Prop where
  len : l.length < 1073741824
  fit : ∀ y ∈ l, SF y
theorem areStmts_c {l : List St} (h : BF l) : PFun Tryz.prog 75 [.d (.sl (l.map St.c))] [] (.d (.bool (St.okL l))) [] := areStmts_of l h.len fun y hy => isStmt_c (h.fit y hy)
def Mt.ok (f : Mt) : Bool := isName f.name && St.okL f.body
def Mo.ok (m : Mo) : Bool := isName m.name && decide (m.vars.length ≤ 16) && decide (m.methods.length ≤ 16) && m.vars.all Vr.ok && m.methods.all Mt.ok
def Ro.ok (r : Ro) : Bool := isName r.name && decide (r.count ≥ 0) && (!(r.star && (r.count != 0))) && St.okL r.body
structure MtF (f : Mt) : Prop where
  name : f.name.length < 1073741824
  body : BF f.body
structure MoF (m : Mo) : Prop where
  name : m.name.length < 1073741824
  vlen : m.vars.length < 1073741824
  mlen : m.methods.length < 1073741824
  vars : ∀ v ∈ m.vars, v.name.length < 1073741824
  meths : ∀ f ∈ m.methods, MtF f
structure RoF (r : Ro) : Prop where
  name : r.name.length < 1073741824
  body : BF r.body
theorem badVar_c (v : Vr) (hn : v.name.length < 1073741824) : PFun Tryz.prog 77 [v.v] [] (.d (.bool (!v.ok))) [] := by
  refine fn_sem pok 6 0 Tryz.func77 (by kernel_rfl) rfl rfl rfl rfl ?_
  refine SWp.go pok (by kernel_rfl) ?_
  refine PFun.call (isVar_c v hn) ?_
  refine brP_split (fun h3 => ?_) (fun h3 => ?_)
  · exact fin1 (dbool h3.symm)
  · exact fin1 (dbool h3.symm)
theorem badMeth_c (f : Mt) (h : MtF f) : PFun Tryz.prog 74 [f.v] [] (.d (.bool (!f.ok))) [] := by
  unfold Mt.ok
  refine fn_sem pok 13 0 Tryz.func74 (by kernel_rfl) rfl rfl rfl rfl ?_
  refine SWp.go pok (by kernel_rfl) ?_
  refine PFun.call (lexName_c f.name h.name) ?_
  cases h1 : isName f.name with
  | false => exact fin1 rfl
  | true =>
    refine PFun.call (areStmts_c h.body) ?_
    refine brP_split (fun h3 => ?_) (fun h3 => ?_)
    · have h3 : St.okL f.body = false := by simpa using h3
      exact fin1 (dbool (by rw [h3]; rfl))
    · have h3 : St.okL f.body = true := by simpa using h3
      exact fin1 (dbool (by rw [h3]; rfl))
theorem isMonitor_c (m : Mo) (h : MoF m) : PFun Tryz.prog 45 [m.v] [] (.d (.bool m.ok)) [] := by
  unfold Mo.ok
  refine fn_sem pok 31 0 Tryz.func45 (by kernel_rfl) rfl rfl rfl rfl ?_
  refine SWp.go pok (by kernel_rfl) ?_
  refine PFun.call (lexName_c m.name h.name) ?_
  cases h1 : isName m.name with
  | false => exact fin1 rfl
  | true =>
  refine brP_split (fun h2 => ?_) (fun h2 => ?_)
  · have h2 : decide (m.vars.length ≤ 16) = false := by simp at h2 ⊢; omega
    exact fin1 (dbool (by rw [h2]; rfl))
  have h2 : decide (m.vars.length ≤ 16) = true := by simp at h2 ⊢; omega
  rw [h2]
  refine brP_split (fun h3 => ?_) (fun h3 => ?_)
  · have h3 : decide (m.methods.length ≤ 16) = false := by simp at h3 ⊢; omega
    exact fin1 (dbool (by rw [h3]; rfl))
  have h3 : decide (m.methods.length ≤ 16) = true := by simp at h3 ⊢; omega
  rw [h3, ← not_any Vr.ok, ← not_any Mt.ok]
  refine PFun.call (anyVr_c _ (fun v => !v.ok) m.vars (fun v hv => badVar_c v (h.vars v hv)) h.vlen) ?_
  refine brP_split (fun h4 => ?_) (fun h4 => ?_)
  · rw [h4]
    refine PFun.call (anyMt_c _ (fun f => !f.ok) m.methods (fun f hf => badMeth_c f (h.meths f hf)) h.mlen) ?_
    refine brP_split (fun h5 => ?_) (fun h5 => ?_)
    · exact fin1 (dbool (by rw [h5]; rfl))
    · exact fin1 (dbool (by rw [h5]; rfl))
  · exact fin1 (dbool (by rw [h4]; rfl))
theorem isRole_c (r : Ro) (h : RoF r) : PFun Tryz.prog 46 [r.v] [] (.d (.bool r.ok)) [] := by
  unfold Ro.ok
  refine fn_sem pok 26 0 Tryz.func46 (by kernel_rfl) rfl rfl rfl rfl ?_
  refine SWp.go pok (by kernel_rfl) ?_
  refine PFun.call (lexName_c r.name h.name) ?_
  cases h1 : isName r.name with
  | false => exact fin1 rfl
  | true =>
  by_cases h2 : decide (r.count ≥ 0) = true
  case neg =>
    rw [Bool.not_eq_true] at h2
    refine brP_false h2 ?_
    exact fin1 (dbool (by rw [h2]; rfl))
  refine brP_true h2 ?_
  rw [h2]
  cases hst : r.star with
  | false =>
    refine PFun.call (areStmts_c h.body) ?_
    exact fin1 rfl
  | true =>
    refine brP_split (fun h3 => ?_) (fun h3 => ?_)
    · exact fin1 (dbool (by rw [h3]; rfl))
    rw [h3]
    refine PFun.call (areStmts_c h.body) ?_
    exact fin1 rfl
def Pg.ok (p : Pg) : Bool := decide (p.mons.length ≤ 8) && decide (p.roles.length ≤ 8) && p.mons.all Mo.ok && p.roles.all Ro.ok
structure PgF (p : Pg) : Prop where
  mons : ∀ m ∈ p.mons, MoF m
  roles : ∀ r ∈ p.roles, RoF r
def checkP (p : Pg) : Int := if p.ok then 0 else 20
theorem check_c (p : Pg) (h : PgF p) : PFun Tryz.prog 19 [p.v] [] (iv (checkP p)) [] := by
  unfold checkP Pg.ok
  refine fn_sem pok 39 0 Tryz.func19 (by kernel_rfl) rfl rfl rfl rfl ?_
  refine SWp.go pok (by kernel_rfl) ?_
  refine brP_split (fun h2 => ?_) (fun h2 => ?_)
  · have h2 : decide (p.mons.length ≤ 8) = false := by simp at h2 ⊢; omega
    exact fin1 (dint (by rw [h2]; rfl))
  have hm : p.mons.length ≤ 8 := by simp at h2; omega
  rw [decide_eq_true hm]
  refine brP_split (fun h3 => ?_) (fun h3 => ?_)
  · have h3 : decide (p.roles.length ≤ 8) = false := by simp at h3 ⊢; omega
    exact fin1 (dint (by rw [h3]; rfl))
  have hr : p.roles.length ≤ 8 := by simp at h3; omega
  rw [decide_eq_true hr]
  refine SWp.loop (fun k : Nat => k ≤ p.mons.length ∧ (p.mons.drop k).all Mo.ok = p.mons.all Mo.ok) (fun k => ([(1, .ptr 0 0), (18, .d (.sl (p.mons.map Mo.c))), (19, iv p.mons.length), (20, iv k)], [.box [.d (.sl (p.mons.map Mo.c)), .d (.sl (p.roles.map Ro.c))]])) (fun k => p.mons.length - k) 0 ⟨Nat.zero_le _, rfl⟩ (Le.same ⟨rfl, rfl, sint (by rw [List.length_map]), rfl, trivial⟩) (fun k hk => ?_)
  obtain ⟨hj, hk⟩ := hk
  refine SWp.go pok (by kernel_rfl) ?_
  refine brP_split (fun h4 => ?_) (fun h4 => ?_)
  · have hlt : k < p.mons.length := by simpa using h4
    have hat : (p.mons.drop k).all Mo.ok = (p.mons[k].ok && (p.mons.drop (k + 1)).all Mo.ok) := by rw [List.drop_eq_getElem_cons hlt]; rfl
    refine Mo.inRow hlt ?_
    refine PFun.call (isMonitor_c p.mons[k] (h.mons _ (List.getElem_mem hlt))) ?_
    refine brP_split (fun h5 => ?_) (fun h5 => ?_)
    · have h5 : p.mons[k].ok = false := by simpa using h5
      exact fin1 (dint (by rw [← hk, hat, h5]; rfl))
    · have h5 : p.mons[k].ok = true := by simpa using h5
      exact ⟨k + 1, ⟨hlt, by rw [← hk, hat, h5]; rfl⟩, by omega, .inr ⟨[0], ⟨rfl, rfl⟩, rfl, rfl, rfl, rfl, sint (wrap_nat k (by omega)), trivial⟩⟩
  have hk' : k = p.mons.length := by simp at h4; omega
  subst hk'
  rw [List.drop_of_length_le (Nat.le_refl _)] at hk
  rw [← hk]
  refine SWp.loop (fun k : Nat => k ≤ p.roles.length ∧ (p.roles.drop k).all Ro.ok = p.roles.all Ro.ok) (fun k => ([(29, .d (.sl (p.roles.map Ro.c))), (30, iv p.roles.length), (31, iv k)], [])) (fun k => p.roles.length - k) 0 ⟨Nat.zero_le _, rfl⟩ (.inr ⟨[], ⟨rfl, rfl⟩, rfl, rfl, sint (by rw [List.length_map]), rfl, trivial⟩) (fun k hk2 => ?_)
  obtain ⟨hj, hk2⟩ := hk2
  refine SWp.go pok (by kernel_rfl) ?_
  refine brP_split (fun h4 => ?_) (fun h4 => ?_)
  · have hlt : k < p.roles.length := by simpa using h4
    have hat : (p.roles.drop k).all Ro.ok = (p.roles[k].ok && (p.roles.drop (k + 1)).all Ro.ok) := by rw [List.drop_eq_getElem_cons hlt]; rfl
    refine Ro.inRow hlt ?_
    refine PFun.call (isRole_c p.roles[k] (h.roles _ (List.getElem_mem hlt))) ?_
    refine brP_split (fun h5 => ?_) (fun h5 => ?_)
    · have h5 : p.roles[k].ok = false := by simpa using h5
      exact fin1 (dint (by rw [← hk2, hat, h5]; rfl))
    · have h5 : p.roles[k].ok = true := by simpa using h5
      exact ⟨k + 1, ⟨hlt, by rw [← hk2, hat, h5]; rfl⟩, by omega, .inr ⟨[], ⟨rfl, rfl⟩, rfl, rfl, rfl, sint (wrap_nat k (by omega)), trivial⟩⟩
  · have hk' : k = p.roles.length := by simp at h4; omega
    subst hk'
    rw [List.drop_of_length_le (Nat.le_refl _)] at hk2
    rw [← hk2]
    exact fin1 rfl
end Go.Proofs.YtmflfcbebeikcaaGreat.Q

namespace Go.Proofs.YtmflfcbebeikcaaGreat.Q
open Go.RowKit
variable [Amb]
/-- A number that is left. -/
def Left (n : Int) (X : Int → Prop) : V → List Ob → Prop := fun r h' => ∃ z : Int, r = iv z ∧ h' = [] ∧ -1 ≤ z ∧ z ≤ n ∧ X z
theorem restExpr_c (N : Nat) : ∀ (x : Ex) (n : Int), x.pre.length ≤ N → -1 ≤ n → n ≤ 1000 →
    PCalls Tryz.prog 26 [x.v, iv n] [] (Left n fun z => 0 ≤ z → (x.pre.length : Int) = n - z ∧ ∀ y ∈ x.pre, y.kids.length ≤ 1000 ∧ y.mon.length ≤ 1000 ∧ y.name.length ≤ 1000) := by
  induction N with
  | zero => intro x n h; have := x.pre_pos; omega
  | succ N ih =>
    intro x n hN hn0 hn1
    refine fn_sem pok 44 0 Tryz.func26 (by kernel_rfl) rfl rfl rfl rfl ?_
    refine SWp.go pok (by kernel_rfl) ?_
    refine brP_split (fun h => ?_) (fun h => ?_)
    · exact ⟨-1, rfl, rfl, by omega, by omega, fun h => by omega⟩
    have hm : x.mon.length ≤ 200 := by simp at h; omega
    refine brP_split (fun h => ?_) (fun h => ?_)
    · exact ⟨-1, rfl, rfl, by omega, by omega, fun h => by omega⟩
    have hnm : x.name.length ≤ 200 := by simp at h; omega
    refine brP_split (fun h => ?_) (fun h => ?_)
    · exact ⟨-1, rfl, rfl, by omega, by omega, fun h => by omega⟩
    have hk : (x.kids.length : Int) ≤ n := by simp at h; omega
    have hsub : IntKind.i64.wrap (n - 1) = n - 1 := wrap_in (by unfold R64; omega)
    refine SWp.loop (fun q : Nat × Int => q.1 ≤ x.kids.length ∧ -1 ≤ q.2 ∧ q.2 ≤ n - 1 ∧ (0 ≤ q.2 → ((Ex.pres (x.kids.take q.1)).length : Int) = n - 1 - q.2 ∧ ∀ y ∈ Ex.pres (x.kids.take q.1), y.kids.length ≤ 1000 ∧ y.mon.length ≤ 1000 ∧ y.name.length ≤ 1000))
      (fun q => ([(1, iv q.2), (2, .ptr 0 0), (5, iv q.1)], [.box [iv x.op, sv' x.mon, sv' x.name, iv x.n, .d (.sl (x.kids.map Ex.e)), iv x.pl]])) (fun q => x.kids.length - q.1) (0, n - 1)
      ⟨Nat.zero_le _, by show -1 ≤ n - 1; omega, Int.le_refl _, fun _ => ⟨by simp [Ex.pres], by simp [Ex.pres]⟩⟩ (Le.same ⟨sint hsub, rfl, rfl, trivial⟩) (fun q hq => ?_)
    obtain ⟨k, m⟩ := q
    obtain ⟨hj, hm0, hm1, hX⟩ := hq
    simp only at hj hm0 hm1 hX
    have fin : (k = x.kids.length ∨ m < 0) → 0 ≤ m → (x.pre.length : Int) = n - m ∧ ∀ y ∈ x.pre, y.kids.length ≤ 1000 ∧ y.mon.length ≤ 1000 ∧ y.name.length ≤ 1000 := fun hor hm => by
      have hk' : k = x.kids.length := by omega
      obtain ⟨h1, h2⟩ := hX hm
      rw [hk', List.take_length] at h1 h2
      rw [x.pre_eq]
      refine ⟨by rw [List.length_cons]; omega, fun y hy => ?_⟩
      rcases List.mem_cons.1 hy with e | e
      · subst e; exact ⟨by omega, by omega, by omega⟩
      · exact h2 y e
    refine SWp.go pok (by kernel_rfl) ?_
    refine brP_split (fun h => ?_) (fun h => ?_)
    · have hlt : k < x.kids.length := by simpa using h
      have hlk := Ex.pre_kid (List.getElem_mem hlt)
      have hsn := Ex.pres_snoc hlt
      refine brP_split (fun h2 => ?_) (fun h2 => ?_)
      · have h2 : 0 ≤ m := by simpa using h2
        refine PIdx.ex hlt ?_
        refine PCalls.mono (ih x.kids[k] m (by omega) hm0 (by omega)) ?_
        rintro r h' ⟨z, rfl, rfl, z0, z1, zX⟩
        exact ⟨(k + 1, z), ⟨hlt, z0, by show z ≤ n - 1; omega, fun hz => by
          obtain ⟨a1, a2⟩ := hX h2
          obtain ⟨b1, b2⟩ := zX hz
          rw [hsn]
          refine ⟨by rw [List.length_append]; show _ = n - 1 - z; omega, fun y hy => ?_⟩
          rcases List.mem_append.1 hy with e | e
          · exact a2 y e
          · exact b2 y e⟩, by show x.kids.length - (k + 1) < x.kids.length - k; omega, Le.same ⟨rfl, rfl, sint (wrap_nat k (by omega)), trivial⟩⟩
      · have h2 : m < 0 := by simpa using h2
        exact ⟨m, rfl, rfl, hm0, by omega, fun hz => by omega⟩
    · have hk' : k = x.kids.length := by simp at h; omega
      exact ⟨m, rfl, rfl, hm0, by omega, fun hz => fin (.inl hk') hz⟩
end Go.Proofs.YtmflfcbebeikcaaGreat.Q

namespace Go.Proofs.YtmflfcbebeikcaaGreat.Q
open Go.RowKit
def Ex.nums (x : Ex) : Prop := ∀ y ∈ x.pre, R64 y.n
theorem rd_Ex (fuel : Nat) : RdD Tryz.prog fuel 53 (fun r => ∃ x : Ex, Ex.nums x ∧ r = x.e) := by
  letI : Amb := ambD
  induction fuel using Nat.strongRecOn with
  | _ fuel ih =>
    refine (rdD_struct (fs := [(3, 0), (9, 1), (9, 2), (2, 3), (51, 4), (3, 5)]) (by kernel_rfl) (sz := 1 + (1 + (1 + (1 + (1 + 1))))) (by kernel_rfl) fuel fun m hm =>
      frD_cons (by kernel_rfl) (rd_int m) (frD_cons (by kernel_rfl) (rd_str m) (frD_cons (by kernel_rfl) (rd_str m) (frD_cons (by kernel_rfl) (rd_int64 m)
        (frD_cons (by kernel_rfl) (rdD_slice (sz := 6) (e := 53) (by kernel_rfl) (by kernel_rfl) (by decide) m fun m' hm' => ih m' (by omega)) (frD_last (by kernel_rfl) (rd_int m))))))).mono ?_
    rintro r ⟨_, _, ⟨op, h1, rfl⟩, ⟨_, _, ⟨mon, h2, rfl⟩, ⟨_, _, ⟨name, h3, rfl⟩, ⟨_, _, ⟨n, h4, rfl⟩, ⟨_, _, ⟨rows, h5, h6, rfl⟩, ⟨pl, h7, rfl⟩, rfl⟩, rfl⟩, rfl⟩, rfl⟩, rfl⟩
    obtain ⟨l, rfl, hl⟩ := rows_map h5
    refine ⟨⟨op, mon, name, n, l, pl⟩, fun y hy => ?_, by rw [Ex.e_eq]; rfl⟩
    rw [Ex.pre_eq] at hy
    rcases List.mem_cons.1 hy with e | e
    · subst e; exact h4
    · rw [Ex.pres_map] at e
      obtain ⟨z, hz, hyz⟩ := List.mem_flatMap.1 e
      exact hl z hz y hyz
section
variable {H : Type} {enc : TypeId × Value → H} {d : DataW H} {p : List MemPlace} {base : Nat}
theorem read_Ex (W : World) (v : Value) (hv : Value.okWide Tryz.prog W .any base 53 v) (h : DataW.Trod enc Tryz.prog W 0 (fun _ => true) true 53 v d p) : ∃ x : Ex, x.nums ∧ x.v.rep (allG W) (fun _ _ => none) v := by
  obtain ⟨r, ⟨x, hx, rfl⟩, hr⟩ := read_agg (fs := [(3, 0), (9, 1), (9, 2), (2, 3), (51, 4), (3, 5)]) (by kernel_rfl) rd_Ex hv h
  refine ⟨x, hx, ?_⟩
  rw [Ex.e_row] at hr
  exact hr
end
end Go.Proofs.YtmflfcbebeikcaaGreat.Q

namespace Go.Proofs.YtmflfcbebeikcaaGreat.Q
open Go.RowKit
variable [Amb]
def eqL {α : Type} (p : α → α → Bool) : List α → List α → Bool
  | [], [] => true
  | a :: xs, b :: ys => p a b && eqL p xs ys
  | _, _ => false
theorem eqL_len {α : Type} {p : α → α → Bool} : ∀ {xs ys : List α}, xs.length ≠ ys.length → eqL p xs ys = false
  | [], [], h => absurd rfl h
  | [], b :: ys, _ => rfl
  | a :: xs, [], _ => rfl
  | a :: xs, b :: ys, h => by rw [eqL, eqL_len (by simpa using h), Bool.and_false]
theorem eqL_at {α : Type} {p : α → α → Bool} {xs ys : List α} {k : Nat} (h : k < xs.length) (h' : k < ys.length) : eqL p (xs.drop k) (ys.drop k) = (p xs[k] ys[k] && eqL p (xs.drop (k + 1)) (ys.drop (k + 1))) := by
  rw [List.drop_eq_getElem_cons h, List.drop_eq_getElem_cons h']; rfl
theorem eqL_end {α : Type} {p : α → α → Bool} {xs ys : List α} {k : Nat} (h : xs.length ≤ k) (h' : ys.length ≤ k) : eqL p (xs.drop k) (ys.drop k) = true := by
  rw [List.drop_of_length_le h, List.drop_of_length_le h']; rfl
mutual
def Ex.same : Ex → Ex → Bool
  | ⟨op, mon, name, n, kids, _⟩, ⟨op', mon', name', n', kids', _⟩ => (op == op') && (mon == mon') && (name == name') && (n == n') && Ex.sames kids kids'
def Ex.sames : List Ex → List Ex → Bool
  | [], [] => true
  | a :: xs, b :: ys => a.same b && Ex.sames xs ys
  | _, _ => false
end
theorem Ex.sames_eqL : ∀ xs ys : List Ex, Ex.sames xs ys = eqL Ex.same xs ys
  | [], [] => by rw [Ex.sames, eqL]
  | a :: xs, b :: ys => by rw [Ex.sames, eqL, Ex.sames_eqL xs ys]
  | [], b :: ys => by rw [Ex.sames, eqL] <;> simp
  | a :: xs, [] => by rw [Ex.sames, eqL] <;> simp
theorem Ex.same_eq (a b : Ex) : a.same b = ((a.op == b.op) && (a.mon == b.mon) && (a.name == b.name) && (a.n == b.n) && eqL Ex.same a.kids b.kids) := by
  cases a; cases b; rw [Ex.same, Ex.sames_eqL]
mutual
def St.same : St → St → Bool
  | ⟨kind, mon, name, n, e, blocks, _⟩, ⟨kind', mon', name', n', e', blocks', _⟩ => (kind == kind') && (mon == mon') && (name == name') && (n == n') && e.same e' && St.sameB blocks blocks'
def St.sameL : List St → List St → Bool
  | [], [] => true
  | a :: xs, b :: ys => a.same b && St.sameL xs ys
  | _, _ => false
def St.sameB : List (List St) → List (List St) → Bool
  | [], [] => true
  | a :: xs, b :: ys => St.sameL a b && St.sameB xs ys
  | _, _ => false
end
theorem St.sameL_eqL : ∀ xs ys : List St, St.sameL xs ys = eqL St.same xs ys
  | [], [] => by rw [St.sameL, eqL]
  | a :: xs, b :: ys => by rw [St.sameL, eqL, St.sameL_eqL xs ys]
  | [], b :: ys => by rw [St.sameL, eqL] <;> simp
  | a :: xs, [] => by rw [St.sameL, eqL] <;> simp
theorem St.sameB_eqL : ∀ xs ys : List (List St), St.sameB xs ys = eqL (eqL St.same) xs ys
  | [], [] => by rw [St.sameB, eqL]
  | a :: xs, b :: ys => by rw [St.sameB, eqL, St.sameB_eqL xs ys, St.sameL_eqL]
  | [], b :: ys => by rw [St.sameB, eqL] <;> simp
  | a :: xs, [] => by rw [St.sameB, eqL] <;> simp
theorem St.same_eq (a b : St) : a.same b = ((a.kind == b.kind) && (a.mon == b.mon) && (a.name == b.name) && (a.n == b.n) && a.e.same b.e && eqL (eqL St.same) a.blocks b.blocks) := by
  cases a; cases b; rw [St.same, St.sameB_eqL]
def Vr.same (a b : Vr) : Bool := (a.name == b.name) && (a.type == b.type) && (a.lo == b.lo) && (a.hi == b.hi) && (a.init == b.init)
def Mt.same (a b : Mt) : Bool := (a.name == b.name) && eqL St.same a.body b.body
def Mo.same (a b : Mo) : Bool := (a.name == b.name) && eqL Vr.same a.vars b.vars && eqL Mt.same a.methods b.methods
def Ro.same (a b : Ro) : Bool := (a.name == b.name) && (a.star == b.star) && (a.count == b.count) && eqL St.same a.body b.body
def Pg.same (a b : Pg) : Bool := eqL Mo.same a.mons b.mons && eqL Ro.same a.roles b.roles
/-- Lists that are not longer than any machine holds. -/
abbrev big : Nat := 1099511627776
inductive Ex.Fit : Ex → Prop
  | mk {op : Int} {mon name : Str} {n : Int} {kids : List Ex} {pl : Int} (h : kids.length < big) (k : ∀ y ∈ kids, Ex.Fit y) : Ex.Fit ⟨op, mon, name, n, kids, pl⟩
inductive St.Fit : St → Prop
  | mk {kind : Int} {mon name : Str} {n : Int} {e : Ex} {blocks : List (List St)} {pl : Int} (he : e.Fit) (h : blocks.length < big) (hb : ∀ b ∈ blocks, b.length < big) (k : ∀ b ∈ blocks, ∀ y ∈ b, St.Fit y) : St.Fit ⟨kind, mon, name, n, e, blocks, pl⟩
structure Bd (l : List St) : Prop where
  len : l.length < big
  fit : ∀ y ∈ l, y.Fit
structure Pg.Fit (p : Pg) : Prop where
  mons : p.mons.length < big
  roles : p.roles.length < big
  vars : ∀ m ∈ p.mons, m.vars.length < big
  meths : ∀ m ∈ p.mons, m.methods.length < big
  body : ∀ m ∈ p.mons, ∀ f ∈ m.methods, Bd f.body
  rbody : ∀ r ∈ p.roles, Bd r.body

theorem Ex.atRow {l : List (Ex)} {k : Nat} {K : List D → Prop} (h : k < l.length) (c : K [.int .i64 l[k].op, .str l[k].mon, .str l[k].name, .int .i64 l[k].n, .sl (l[k].kids.map Ex.e), .int .i64 l[k].pl]) : PIdx (l.map Ex.e) (k : Int) K := PIdx.map (get_at h) (by
  have e : Ex.e l[k] = [.int .i64 l[k].op, .str l[k].mon, .str l[k].name, .int .i64 l[k].n, .sl (l[k].kids.map Ex.e), .int .i64 l[k].pl] := by rw [Ex.e_row]; rfl
  rw [e]; exact c)
theorem eqfEx_c (g : FuncId) (p : Ex → Ex → Bool) (xs ys : List (Ex)) (h : ∀ a ∈ xs, ∀ b ∈ ys, PFun Tryz.prog g [Ex.v a, Ex.v b] [] (.d (.bool (p a b))) []) (hl : xs.length < big) :
    PFun Tryz.prog 137 [.d (.sl (xs.map Ex.e)), .d (.sl (ys.map Ex.e)), .fn (.func g) [] []] [] (.d (.bool (eqL p xs ys))) [] := by
  refine fn_sem pok 32 0 Tryz.func137 (by kernel_rfl) rfl rfl rfl rfl ?_
  refine SWp.go pok (by kernel_rfl) ?_
  by_cases hlen : xs.length = ys.length
  case neg =>
    refine brP_true (by simp; omega) ?_
    exact fin1 (dbool (eqL_len hlen).symm)
  refine brP_false (by simp; omega) ?_
  refine SWp.loop (fun k : Nat => k ≤ xs.length ∧ eqL p (xs.drop k) (ys.drop k) = eqL p xs ys) (fun k => ([(1, .d (.sl (ys.map Ex.e))), (2, .fn (.func g) [] []), (15, .d (.sl (xs.map Ex.e))), (16, iv (xs.map Ex.e).length), (17, iv k)], [])) (fun k => xs.length - k) 0 ⟨Nat.zero_le _, rfl⟩ (Le.same ⟨rfl, rfl, rfl, rfl, rfl, trivial⟩) (fun k hk => ?_)
  obtain ⟨hkl, hk⟩ := hk
  refine SWp.go pok (by kernel_rfl) ?_
  refine brP_split (fun h1 => ?_) (fun h1 => ?_)
  · have hlt : k < xs.length := by simpa using h1
    have hlt' : k < ys.length := by omega
    have hat := eqL_at (p := p) hlt hlt'
    refine Ex.atRow hlt ?_
    refine Ex.atRow hlt' ?_
    refine PFun.call (h xs[k] (List.getElem_mem hlt) ys[k] (List.getElem_mem hlt')) ?_
    refine brP_split (fun h2 => ?_) (fun h2 => ?_)
    · have h2 : p xs[k] ys[k] = false := by simpa using h2
      exact fin1 (dbool (by rw [← hk, hat, h2]; rfl))
    · have h2 : p xs[k] ys[k] = true := by simpa using h2
      exact ⟨k + 1, ⟨hlt, by rw [← hk, hat, h2]; rfl⟩, by omega, .inr ⟨[], ⟨rfl, rfl⟩, rfl, rfl, rfl, rfl, rfl, sint (wrap_nat k (by simp only [big] at hl; omega)), trivial⟩⟩
  · have hge : xs.length ≤ k := by simp at h1; omega
    exact fin1 (dbool (by rw [← hk, eqL_end hge (by omega)]))

theorem St.atRow {l : List (St)} {k : Nat} {K : List D → Prop} (h : k < l.length) (c : K [.int .i64 l[k].kind, .str l[k].mon, .str l[k].name, .int .i64 l[k].n, .int .i64 l[k].e.op, .str l[k].e.mon, .str l[k].e.name, .int .i64 l[k].e.n, .sl (l[k].e.kids.map Ex.e), .int .i64 l[k].e.pl, .sl (l[k].blocks.map blk), .int .i64 l[k].pl]) : PIdx (l.map St.c) (k : Int) K := PIdx.map (get_at h) (by
  have e : St.c l[k] = [.int .i64 l[k].kind, .str l[k].mon, .str l[k].name, .int .i64 l[k].n, .int .i64 l[k].e.op, .str l[k].e.mon, .str l[k].e.name, .int .i64 l[k].e.n, .sl (l[k].e.kids.map Ex.e), .int .i64 l[k].e.pl, .sl (l[k].blocks.map blk), .int .i64 l[k].pl] := by rw [St.c_eq, Ex.e_row]; rfl
  rw [e]; exact c)
theorem eqfSt_c (g : FuncId) (p : St → St → Bool) (xs ys : List (St)) (h : ∀ a ∈ xs, ∀ b ∈ ys, PFun Tryz.prog g [St.v a, St.v b] [] (.d (.bool (p a b))) []) (hl : xs.length < big) :
    PFun Tryz.prog 88 [.d (.sl (xs.map St.c)), .d (.sl (ys.map St.c)), .fn (.func g) [] []] [] (.d (.bool (eqL p xs ys))) [] := by
  refine fn_sem pok 32 0 Tryz.func88 (by kernel_rfl) rfl rfl rfl rfl ?_
  refine SWp.go pok (by kernel_rfl) ?_
  by_cases hlen : xs.length = ys.length
  case neg =>
    refine brP_true (by simp; omega) ?_
    exact fin1 (dbool (eqL_len hlen).symm)
  refine brP_false (by simp; omega) ?_
  refine SWp.loop (fun k : Nat => k ≤ xs.length ∧ eqL p (xs.drop k) (ys.drop k) = eqL p xs ys) (fun k => ([(1, .d (.sl (ys.map St.c))), (2, .fn (.func g) [] []), (15, .d (.sl (xs.map St.c))), (16, iv (xs.map St.c).length), (17, iv k)], [])) (fun k => xs.length - k) 0 ⟨Nat.zero_le _, rfl⟩ (Le.same ⟨rfl, rfl, rfl, rfl, rfl, trivial⟩) (fun k hk => ?_)
  obtain ⟨hkl, hk⟩ := hk
  refine SWp.go pok (by kernel_rfl) ?_
  refine brP_split (fun h1 => ?_) (fun h1 => ?_)
  · have hlt : k < xs.length := by simpa using h1
    have hlt' : k < ys.length := by omega
    have hat := eqL_at (p := p) hlt hlt'
    refine St.atRow hlt ?_
    refine St.atRow hlt' ?_
    refine PFun.call (h xs[k] (List.getElem_mem hlt) ys[k] (List.getElem_mem hlt')) ?_
    refine brP_split (fun h2 => ?_) (fun h2 => ?_)
    · have h2 : p xs[k] ys[k] = false := by simpa using h2
      exact fin1 (dbool (by rw [← hk, hat, h2]; rfl))
    · have h2 : p xs[k] ys[k] = true := by simpa using h2
      exact ⟨k + 1, ⟨hlt, by rw [← hk, hat, h2]; rfl⟩, by omega, .inr ⟨[], ⟨rfl, rfl⟩, rfl, rfl, rfl, rfl, rfl, sint (wrap_nat k (by simp only [big] at hl; omega)), trivial⟩⟩
  · have hge : xs.length ≤ k := by simp at h1; omega
    exact fin1 (dbool (by rw [← hk, eqL_end hge (by omega)]))

theorem Bl.atRow {l : List (List St)} {k : Nat} {K : List D → Prop} (h : k < l.length) (c : K [.sl (l[k].map St.c)]) : PIdx (l.map blk) (k : Int) K := PIdx.map (get_at h) (by
  have e : blk l[k] = [.sl (l[k].map St.c)] := rfl
  rw [e]; exact c)
theorem eqfBl_c (g : FuncId) (p : List St → List St → Bool) (xs ys : List (List St)) (h : ∀ a ∈ xs, ∀ b ∈ ys, PFun Tryz.prog g [V.d (.sl (a.map St.c)), V.d (.sl (b.map St.c))] [] (.d (.bool (p a b))) []) (hl : xs.length < big) :
    PFun Tryz.prog 120 [.d (.sl (xs.map blk)), .d (.sl (ys.map blk)), .fn (.func g) [] []] [] (.d (.bool (eqL p xs ys))) [] := by
  refine fn_sem pok 32 0 Tryz.func120 (by kernel_rfl) rfl rfl rfl rfl ?_
  refine SWp.go pok (by kernel_rfl) ?_
  by_cases hlen : xs.length = ys.length
  case neg =>
    refine brP_true (by simp; omega) ?_
    exact fin1 (dbool (eqL_len hlen).symm)
  refine brP_false (by simp; omega) ?_
  refine SWp.loop (fun k : Nat => k ≤ xs.length ∧ eqL p (xs.drop k) (ys.drop k) = eqL p xs ys) (fun k => ([(1, .d (.sl (ys.map blk))), (2, .fn (.func g) [] []), (15, .d (.sl (xs.map blk))), (16, iv (xs.map blk).length), (17, iv k)], [])) (fun k => xs.length - k) 0 ⟨Nat.zero_le _, rfl⟩ (Le.same ⟨rfl, rfl, rfl, rfl, rfl, trivial⟩) (fun k hk => ?_)
  obtain ⟨hkl, hk⟩ := hk
  refine SWp.go pok (by kernel_rfl) ?_
  refine brP_split (fun h1 => ?_) (fun h1 => ?_)
  · have hlt : k < xs.length := by simpa using h1
    have hlt' : k < ys.length := by omega
    have hat := eqL_at (p := p) hlt hlt'
    refine Bl.atRow hlt ?_
    refine Bl.atRow hlt' ?_
    refine PFun.call (h xs[k] (List.getElem_mem hlt) ys[k] (List.getElem_mem hlt')) ?_
    refine brP_split (fun h2 => ?_) (fun h2 => ?_)
    · have h2 : p xs[k] ys[k] = false := by simpa using h2
      exact fin1 (dbool (by rw [← hk, hat, h2]; rfl))
    · have h2 : p xs[k] ys[k] = true := by simpa using h2
      exact ⟨k + 1, ⟨hlt, by rw [← hk, hat, h2]; rfl⟩, by omega, Le.same ⟨rfl, rfl, rfl, rfl, sint (wrap_nat k (by simp only [big] at hl; omega)), trivial⟩⟩
  · have hge : xs.length ≤ k := by simp at h1; omega
    exact fin1 (dbool (by rw [← hk, eqL_end hge (by omega)]))

theorem Vr.atRow {l : List (Vr)} {k : Nat} {K : List D → Prop} (h : k < l.length) (c : K [.str l[k].name, .int .i64 l[k].type, .int .i64 l[k].lo, .int .i64 l[k].hi, .int .i64 l[k].init, .int .i64 l[k].pl]) : PIdx (l.map Vr.c) (k : Int) K := PIdx.map (get_at h) (by
  have e : Vr.c l[k] = [.str l[k].name, .int .i64 l[k].type, .int .i64 l[k].lo, .int .i64 l[k].hi, .int .i64 l[k].init, .int .i64 l[k].pl] := rfl
  rw [e]; exact c)
theorem eqfVr_c (g : FuncId) (p : Vr → Vr → Bool) (xs ys : List (Vr)) (h : ∀ a ∈ xs, ∀ b ∈ ys, PFun Tryz.prog g [Vr.v a, Vr.v b] [] (.d (.bool (p a b))) []) (hl : xs.length < big) :
    PFun Tryz.prog 50 [.d (.sl (xs.map Vr.c)), .d (.sl (ys.map Vr.c)), .fn (.func g) [] []] [] (.d (.bool (eqL p xs ys))) [] := by
  refine fn_sem pok 32 0 Tryz.func50 (by kernel_rfl) rfl rfl rfl rfl ?_
  refine SWp.go pok (by kernel_rfl) ?_
  by_cases hlen : xs.length = ys.length
  case neg =>
    refine brP_true (by simp; omega) ?_
    exact fin1 (dbool (eqL_len hlen).symm)
  refine brP_false (by simp; omega) ?_
  refine SWp.loop (fun k : Nat => k ≤ xs.length ∧ eqL p (xs.drop k) (ys.drop k) = eqL p xs ys) (fun k => ([(1, .d (.sl (ys.map Vr.c))), (2, .fn (.func g) [] []), (15, .d (.sl (xs.map Vr.c))), (16, iv (xs.map Vr.c).length), (17, iv k)], [])) (fun k => xs.length - k) 0 ⟨Nat.zero_le _, rfl⟩ (Le.same ⟨rfl, rfl, rfl, rfl, rfl, trivial⟩) (fun k hk => ?_)
  obtain ⟨hkl, hk⟩ := hk
  refine SWp.go pok (by kernel_rfl) ?_
  refine brP_split (fun h1 => ?_) (fun h1 => ?_)
  · have hlt : k < xs.length := by simpa using h1
    have hlt' : k < ys.length := by omega
    have hat := eqL_at (p := p) hlt hlt'
    refine Vr.atRow hlt ?_
    refine Vr.atRow hlt' ?_
    refine PFun.call (h xs[k] (List.getElem_mem hlt) ys[k] (List.getElem_mem hlt')) ?_
    refine brP_split (fun h2 => ?_) (fun h2 => ?_)
    · have h2 : p xs[k] ys[k] = false := by simpa using h2
      exact fin1 (dbool (by rw [← hk, hat, h2]; rfl))
    · have h2 : p xs[k] ys[k] = true := by simpa using h2
      exact ⟨k + 1, ⟨hlt, by rw [← hk, hat, h2]; rfl⟩, by omega, .inr ⟨[], ⟨rfl, rfl⟩, rfl, rfl, rfl, rfl, rfl, sint (wrap_nat k (by simp only [big] at hl; omega)), trivial⟩⟩
  · have hge : xs.length ≤ k := by simp at h1; omega
    exact fin1 (dbool (by rw [← hk, eqL_end hge (by omega)]))

theorem Mt.atRow {l : List (Mt)} {k : Nat} {K : List D → Prop} (h : k < l.length) (c : K [.str l[k].name, .sl (l[k].body.map St.c), .int .i64 l[k].pl]) : PIdx (l.map Mt.c) (k : Int) K := PIdx.map (get_at h) (by
  have e : Mt.c l[k] = [.str l[k].name, .sl (l[k].body.map St.c), .int .i64 l[k].pl] := rfl
  rw [e]; exact c)
theorem eqfMt_c (g : FuncId) (p : Mt → Mt → Bool) (xs ys : List (Mt)) (h : ∀ a ∈ xs, ∀ b ∈ ys, PFun Tryz.prog g [Mt.v a, Mt.v b] [] (.d (.bool (p a b))) []) (hl : xs.length < big) :
    PFun Tryz.prog 52 [.d (.sl (xs.map Mt.c)), .d (.sl (ys.map Mt.c)), .fn (.func g) [] []] [] (.d (.bool (eqL p xs ys))) [] := by
  refine fn_sem pok 32 0 Tryz.func52 (by kernel_rfl) rfl rfl rfl rfl ?_
  refine SWp.go pok (by kernel_rfl) ?_
  by_cases hlen : xs.length = ys.length
  case neg =>
    refine brP_true (by simp; omega) ?_
    exact fin1 (dbool (eqL_len hlen).symm)
  refine brP_false (by simp; omega) ?_
  refine SWp.loop (fun k : Nat => k ≤ xs.length ∧ eqL p (xs.drop k) (ys.drop k) = eqL p xs ys) (fun k => ([(1, .d (.sl (ys.map Mt.c))), (2, .fn (.func g) [] []), (15, .d (.sl (xs.map Mt.c))), (16, iv (xs.map Mt.c).length), (17, iv k)], [])) (fun k => xs.length - k) 0 ⟨Nat.zero_le _, rfl⟩ (Le.same ⟨rfl, rfl, rfl, rfl, rfl, trivial⟩) (fun k hk => ?_)
  obtain ⟨hkl, hk⟩ := hk
  refine SWp.go pok (by kernel_rfl) ?_
  refine brP_split (fun h1 => ?_) (fun h1 => ?_)
  · have hlt : k < xs.length := by simpa using h1
    have hlt' : k < ys.length := by omega
    have hat := eqL_at (p := p) hlt hlt'
    refine Mt.atRow hlt ?_
    refine Mt.atRow hlt' ?_
    refine PFun.call (h xs[k] (List.getElem_mem hlt) ys[k] (List.getElem_mem hlt')) ?_
    refine brP_split (fun h2 => ?_) (fun h2 => ?_)
    · have h2 : p xs[k] ys[k] = false := by simpa using h2
      exact fin1 (dbool (by rw [← hk, hat, h2]; rfl))
    · have h2 : p xs[k] ys[k] = true := by simpa using h2
      exact ⟨k + 1, ⟨hlt, by rw [← hk, hat, h2]; rfl⟩, by omega, .inr ⟨[], ⟨rfl, rfl⟩, rfl, rfl, rfl, rfl, rfl, sint (wrap_nat k (by simp only [big] at hl; omega)), trivial⟩⟩
  · have hge : xs.length ≤ k := by simp at h1; omega
    exact fin1 (dbool (by rw [← hk, eqL_end hge (by omega)]))

theorem Mo.atRow {l : List (Mo)} {k : Nat} {K : List D → Prop} (h : k < l.length) (c : K [.str l[k].name, .sl (l[k].vars.map Vr.c), .sl (l[k].methods.map Mt.c), .int .i64 l[k].pl]) : PIdx (l.map Mo.c) (k : Int) K := PIdx.map (get_at h) (by
  have e : Mo.c l[k] = [.str l[k].name, .sl (l[k].vars.map Vr.c), .sl (l[k].methods.map Mt.c), .int .i64 l[k].pl] := rfl
  rw [e]; exact c)
theorem eqfMo_c (g : FuncId) (p : Mo → Mo → Bool) (xs ys : List (Mo)) (h : ∀ a ∈ xs, ∀ b ∈ ys, PFun Tryz.prog g [Mo.v a, Mo.v b] [] (.d (.bool (p a b))) []) (hl : xs.length < big) :
    PFun Tryz.prog 22 [.d (.sl (xs.map Mo.c)), .d (.sl (ys.map Mo.c)), .fn (.func g) [] []] [] (.d (.bool (eqL p xs ys))) [] := by
  refine fn_sem pok 32 0 Tryz.func22 (by kernel_rfl) rfl rfl rfl rfl ?_
  refine SWp.go pok (by kernel_rfl) ?_
  by_cases hlen : xs.length = ys.length
  case neg =>
    refine brP_true (by simp; omega) ?_
    exact fin1 (dbool (eqL_len hlen).symm)
  refine brP_false (by simp; omega) ?_
  refine SWp.loop (fun k : Nat => k ≤ xs.length ∧ eqL p (xs.drop k) (ys.drop k) = eqL p xs ys) (fun k => ([(1, .d (.sl (ys.map Mo.c))), (2, .fn (.func g) [] []), (15, .d (.sl (xs.map Mo.c))), (16, iv (xs.map Mo.c).length), (17, iv k)], [])) (fun k => xs.length - k) 0 ⟨Nat.zero_le _, rfl⟩ (Le.same ⟨rfl, rfl, rfl, rfl, rfl, trivial⟩) (fun k hk => ?_)
  obtain ⟨hkl, hk⟩ := hk
  refine SWp.go pok (by kernel_rfl) ?_
  refine brP_split (fun h1 => ?_) (fun h1 => ?_)
  · have hlt : k < xs.length := by simpa using h1
    have hlt' : k < ys.length := by omega
    have hat := eqL_at (p := p) hlt hlt'
    refine Mo.atRow hlt ?_
    refine Mo.atRow hlt' ?_
    refine PFun.call (h xs[k] (List.getElem_mem hlt) ys[k] (List.getElem_mem hlt')) ?_
    refine brP_split (fun h2 => ?_) (fun h2 => ?_)
    · have h2 : p xs[k] ys[k] = false := by simpa using h2
      exact fin1 (dbool (by rw [← hk, hat, h2]; rfl))
    · have h2 : p xs[k] ys[k] = true := by simpa using h2
      exact ⟨k + 1, ⟨hlt, by rw [← hk, hat, h2]; rfl⟩, by omega, .inr ⟨[], ⟨rfl, rfl⟩, rfl, rfl, rfl, rfl, rfl, sint (wrap_nat k (by simp only [big] at hl; omega)), trivial⟩⟩
  · have hge : xs.length ≤ k := by simp at h1; omega
    exact fin1 (dbool (by rw [← hk, eqL_end hge (by omega)]))

theorem Ro.atRow {l : List (Ro)} {k : Nat} {K : List D → Prop} (h : k < l.length) (c : K [.str l[k].name, .bool l[k].star, .int .i64 l[k].count, .sl (l[k].body.map St.c), .int .i64 l[k].pl]) : PIdx (l.map Ro.c) (k : Int) K := PIdx.map (get_at h) (by
  have e : Ro.c l[k] = [.str l[k].name, .bool l[k].star, .int .i64 l[k].count, .sl (l[k].body.map St.c), .int .i64 l[k].pl] := rfl
  rw [e]; exact c)
theorem eqfRo_c (g : FuncId) (p : Ro → Ro → Bool) (xs ys : List (Ro)) (h : ∀ a ∈ xs, ∀ b ∈ ys, PFun Tryz.prog g [Ro.v a, Ro.v b] [] (.d (.bool (p a b))) []) (hl : xs.length < big) :
    PFun Tryz.prog 24 [.d (.sl (xs.map Ro.c)), .d (.sl (ys.map Ro.c)), .fn (.func g) [] []] [] (.d (.bool (eqL p xs ys))) [] := by
  refine fn_sem pok 32 0 Tryz.func24 (by kernel_rfl) rfl rfl rfl rfl ?_
  refine SWp.go pok (by kernel_rfl) ?_
  by_cases hlen : xs.length = ys.length
  case neg =>
    refine brP_true (by simp; omega) ?_
    exact fin1 (dbool (eqL_len hlen).symm)
  refine brP_false (by simp; omega) ?_
  refine SWp.loop (fun k : Nat => k ≤ xs.length ∧ eqL p (xs.drop k) (ys.drop k) = eqL p xs ys) (fun k => ([(1, .d (.sl (ys.map Ro.c))), (2, .fn (.func g) [] []), (15, .d (.sl (xs.map Ro.c))), (16, iv (xs.map Ro.c).length), (17, iv k)], [])) (fun k => xs.length - k) 0 ⟨Nat.zero_le _, rfl⟩ (Le.same ⟨rfl, rfl, rfl, rfl, rfl, trivial⟩) (fun k hk => ?_)
  obtain ⟨hkl, hk⟩ := hk
  refine SWp.go pok (by kernel_rfl) ?_
  refine brP_split (fun h1 => ?_) (fun h1 => ?_)
  · have hlt : k < xs.length := by simpa using h1
    have hlt' : k < ys.length := by omega
    have hat := eqL_at (p := p) hlt hlt'
    refine Ro.atRow hlt ?_
    refine Ro.atRow hlt' ?_
    refine PFun.call (h xs[k] (List.getElem_mem hlt) ys[k] (List.getElem_mem hlt')) ?_
    refine brP_split (fun h2 => ?_) (fun h2 => ?_)
    · have h2 : p xs[k] ys[k] = false := by simpa using h2
      exact fin1 (dbool (by rw [← hk, hat, h2]; rfl))
    · have h2 : p xs[k] ys[k] = true := by simpa using h2
      exact ⟨k + 1, ⟨hlt, by rw [← hk, hat, h2]; rfl⟩, by omega, .inr ⟨[], ⟨rfl, rfl⟩, rfl, rfl, rfl, rfl, rfl, sint (wrap_nat k (by simp only [big] at hl; omega)), trivial⟩⟩
  · have hge : xs.length ≤ k := by simp at h1; omega
    exact fin1 (dbool (by rw [← hk, eqL_end hge (by omega)]))


theorem sameExpr_c {a : Ex} (ha : a.Fit) : ∀ {b : Ex}, b.Fit → PFun Tryz.prog 119 [a.v, b.v] [] (.d (.bool (a.same b))) [] := by
  induction ha with
  | @mk op mon name n kids pl h k ih =>
    intro b hb
    cases hb with
    | @mk op' mon' name' n' kids' pl' h' k' =>
    rw [Ex.same_eq]
    refine fn_sem pok 38 0 Tryz.func119 (by kernel_rfl) rfl rfl rfl rfl ?_
    refine SWp.go pok (by kernel_rfl) ?_
    dsimp only
    by_cases e1 : (op == op') = true
    case neg =>
      rw [Bool.not_eq_true] at e1
      repeat refine brP_false e1 ?_
      exact fin1 (dbool (by rw [e1]; rfl))
    repeat refine brP_true e1 ?_
    by_cases e2 : (mon == mon') = true
    case neg =>
      rw [Bool.not_eq_true] at e2
      repeat refine brP_false e2 ?_
      exact fin1 (dbool (by rw [e1, e2]; rfl))
    repeat refine brP_true e2 ?_
    by_cases e3 : (name == name') = true
    case neg =>
      rw [Bool.not_eq_true] at e3
      repeat refine brP_false e3 ?_
      exact fin1 (dbool (by rw [e1, e2, e3]; rfl))
    repeat refine brP_true e3 ?_
    by_cases e4 : (n == n') = true
    case neg =>
      rw [Bool.not_eq_true] at e4
      repeat refine brP_false e4 ?_
      exact fin1 (dbool (by rw [e1, e2, e3, e4]; rfl))
    repeat refine brP_true e4 ?_
    refine PFun.call (eqfEx_c _ Ex.same kids kids' (fun x hx y hy => ih x hx (k' y hy)) h) ?_
    exact fin1 (dbool (by rw [e1, e2, e3, e4]; rfl))
theorem sameStmt_c {a : St} (ha : a.Fit) : ∀ {b : St}, b.Fit → PFun Tryz.prog 89 [a.v, b.v] [] (.d (.bool (a.same b))) [] := by
  induction ha with
  | @mk kind mon name n e blocks pl he h hb k ih =>
    intro b hb'
    cases hb' with
    | @mk kind' mon' name' n' e' blocks' pl' he' h' hb2 k' =>
    rw [St.same_eq]
    have stmts : ∀ x ∈ blocks, ∀ y ∈ blocks', PFun Tryz.prog 54 [.d (.sl (x.map St.c)), .d (.sl (y.map St.c))] [] (.d (.bool (eqL St.same x y))) [] := fun x hx y hy => by
      refine fn_sem pok 8 0 Tryz.func54 (by kernel_rfl) rfl rfl rfl rfl ?_
      refine SWp.go pok (by kernel_rfl) ?_
      refine PFun.call (eqfSt_c _ St.same x y (fun u hu v hv => ih x hx u hu (k' y hy v hv)) (hb x hx)) ?_
      exact fin1 rfl
    refine fn_sem pok 45 0 Tryz.func89 (by kernel_rfl) rfl rfl rfl rfl ?_
    refine SWp.go pok (by kernel_rfl) ?_
    dsimp only
    by_cases e1 : (kind == kind') = true
    case neg =>
      rw [Bool.not_eq_true] at e1
      repeat refine brP_false e1 ?_
      exact fin1 (dbool (by rw [e1]; rfl))
    repeat refine brP_true e1 ?_
    by_cases e2 : (mon == mon') = true
    case neg =>
      rw [Bool.not_eq_true] at e2
      repeat refine brP_false e2 ?_
      exact fin1 (dbool (by rw [e1, e2]; rfl))
    repeat refine brP_true e2 ?_
    by_cases e3 : (name == name') = true
    case neg =>
      rw [Bool.not_eq_true] at e3
      repeat refine brP_false e3 ?_
      exact fin1 (dbool (by rw [e1, e2, e3]; rfl))
    repeat refine brP_true e3 ?_
    by_cases e4 : (n == n') = true
    case neg =>
      rw [Bool.not_eq_true] at e4
      repeat refine brP_false e4 ?_
      exact fin1 (dbool (by rw [e1, e2, e3, e4]; rfl))
    repeat refine brP_true e4 ?_
    refine PFun.call (sameExpr_c he he') ?_
    by_cases e5 : e.same e' = true
    case neg =>
      rw [Bool.not_eq_true] at e5
      repeat refine brP_false e5 ?_
      exact fin1 (dbool (by rw [e1, e2, e3, e4, e5]; rfl))
    repeat refine brP_true e5 ?_
    refine PFun.call (eqfBl_c _ (eqL St.same) blocks blocks' stmts h) ?_
    repeat refine brP_true e5 ?_
    exact fin1 (dbool (by rw [e1, e2, e3, e4, e5]; rfl))
theorem sameStmts_c {x y : List St} (hx : Bd x) (hy : Bd y) : PFun Tryz.prog 54 [.d (.sl (x.map St.c)), .d (.sl (y.map St.c))] [] (.d (.bool (eqL St.same x y))) [] := by
  refine fn_sem pok 8 0 Tryz.func54 (by kernel_rfl) rfl rfl rfl rfl ?_
  refine SWp.go pok (by kernel_rfl) ?_
  refine PFun.call (eqfSt_c _ St.same x y (fun u hu v hv => sameStmt_c (hx.fit u hu) (hy.fit v hv)) hx.len) ?_
  exact fin1 rfl
theorem sameVar_c (a b : Vr) : PFun Tryz.prog 51 [a.v, b.v] [] (.d (.bool (a.same b))) [] := by
  refine fn_sem pok 10 0 Tryz.func51 (by kernel_rfl) rfl rfl rfl rfl ?_
  refine SWp.go pok (by kernel_rfl) ?_
  have e0 : ∀ q : Bool, (a.name == b.name && (a.type == b.type && (a.lo == b.lo && (a.hi == b.hi && (a.init == b.init && ((0 : Int) == 0 && true)))))) = q → q = a.same b := fun q h => by
    rw [← h]; simp [Vr.same, Bool.and_assoc]
  refine brP_split (fun h => ?_) (fun h => ?_)
  · exact fin1 (dbool (e0 _ h))
  · exact fin1 (dbool (e0 _ h))
theorem sameMethod_c (a b : Mt) (ha : Bd a.body) (hb : Bd b.body) : PFun Tryz.prog 53 [a.v, b.v] [] (.d (.bool (a.same b))) [] := by
  unfold Mt.same
  refine fn_sem pok 17 0 Tryz.func53 (by kernel_rfl) rfl rfl rfl rfl ?_
  refine SWp.go pok (by kernel_rfl) ?_
  by_cases e1 : (a.name == b.name) = true
  case neg =>
    rw [Bool.not_eq_true] at e1
    repeat refine brP_false e1 ?_
    exact fin1 (dbool (by rw [e1]; rfl))
  repeat refine brP_true e1 ?_
  refine PFun.call (sameStmts_c ha hb) ?_
  exact fin1 (dbool (by rw [e1]; rfl))
theorem sameRole_c (a b : Ro) (ha : Bd a.body) (hb : Bd b.body) : PFun Tryz.prog 25 [a.v, b.v] [] (.d (.bool (a.same b))) [] := by
  unfold Ro.same
  refine fn_sem pok 31 0 Tryz.func25 (by kernel_rfl) rfl rfl rfl rfl ?_
  refine SWp.go pok (by kernel_rfl) ?_
  by_cases e1 : (a.name == b.name) = true
  case neg =>
    rw [Bool.not_eq_true] at e1
    repeat refine brP_false e1 ?_
    exact fin1 (dbool (by rw [e1]; rfl))
  repeat refine brP_true e1 ?_
  by_cases e2 : (a.star == b.star) = true
  case neg =>
    rw [Bool.not_eq_true] at e2
    repeat refine brP_false e2 ?_
    exact fin1 (dbool (by rw [e1, e2]; rfl))
  repeat refine brP_true e2 ?_
  by_cases e3 : (a.count == b.count) = true
  case neg =>
    rw [Bool.not_eq_true] at e3
    repeat refine brP_false e3 ?_
    exact fin1 (dbool (by rw [e1, e2, e3]; rfl))
  repeat refine brP_true e3 ?_
  refine PFun.call (sameStmts_c ha hb) ?_
  exact fin1 (dbool (by rw [e1, e2, e3]; rfl))
theorem sameMonitor_c (a b : Mo) (hv : a.vars.length < big) (hm : a.methods.length < big) (ha : ∀ f ∈ a.methods, Bd f.body) (hb : ∀ f ∈ b.methods, Bd f.body) : PFun Tryz.prog 23 [a.v, b.v] [] (.d (.bool (a.same b))) [] := by
  unfold Mo.same
  refine fn_sem pok 24 0 Tryz.func23 (by kernel_rfl) rfl rfl rfl rfl ?_
  refine SWp.go pok (by kernel_rfl) ?_
  by_cases e1 : (a.name == b.name) = true
  case neg =>
    rw [Bool.not_eq_true] at e1
    repeat refine brP_false e1 ?_
    exact fin1 (dbool (by rw [e1]; rfl))
  repeat refine brP_true e1 ?_
  refine PFun.call (eqfVr_c _ Vr.same a.vars b.vars (fun x _ y _ => sameVar_c x y) hv) ?_
  by_cases e2 : eqL Vr.same a.vars b.vars = true
  case neg =>
    rw [Bool.not_eq_true] at e2
    repeat refine brP_false e2 ?_
    exact fin1 (dbool (by rw [e1, e2]; rfl))
  repeat refine brP_true e2 ?_
  refine PFun.call (eqfMt_c _ Mt.same a.methods b.methods (fun x hx y hy => sameMethod_c x y (ha x hx) (hb y hy)) hm) ?_
  repeat refine brP_true e2 ?_
  exact fin1 (dbool (by rw [e1, e2]; rfl))
theorem same_c (p q : Pg) (hp : p.Fit) (hq : q.Fit) : PFun Tryz.prog 11 [p.v, q.v] [] (.d (.bool (p.same q))) [] := by
  unfold Pg.same
  refine fn_sem pok 17 0 Tryz.func11 (by kernel_rfl) rfl rfl rfl rfl ?_
  refine SWp.go pok (by kernel_rfl) ?_
  refine PFun.call (eqfMo_c _ Mo.same p.mons q.mons (fun x hx y hy => sameMonitor_c x y (hp.vars x hx) (hp.meths x hx) (hp.body x hx) (hq.body y hy)) hp.mons) ?_
  by_cases e1 : eqL Mo.same p.mons q.mons = true
  case neg =>
    rw [Bool.not_eq_true] at e1
    repeat refine brP_false e1 ?_
    exact fin1 (dbool (by rw [e1]; rfl))
  repeat refine brP_true e1 ?_
  refine PFun.call (eqfRo_c _ Ro.same p.roles q.roles (fun x hx y hy => sameRole_c x y (hp.rbody x hx) (hq.rbody y hy)) hp.roles) ?_
  repeat refine brP_true e1 ?_
  exact fin1 (dbool (by rw [e1]; rfl))
end Go.Proofs.YtmflfcbebeikcaaGreat.Q

namespace Go.Proofs.YtmflfcbebeikcaaGreat.Q
open Go.RowKit
variable [Amb]
mutual
def St.cn : St → Nat
  | ⟨_, _, _, _, _, blocks, _⟩ => 1 + St.cnB blocks
def St.cnL : List St → Nat
  | [] => 0
  | a :: r => a.cn + St.cnL r
def St.cnB : List (List St) → Nat
  | [] => 0
  | b :: r => St.cnL b + St.cnB r
end
theorem St.cnL_mem : ∀ {l : List St} {y : St}, y ∈ l → y.cn ≤ St.cnL l
  | a :: r, y, h => by
    rw [St.cnL]
    rcases List.mem_cons.1 h with rfl | h
    · omega
    · have := St.cnL_mem h; omega
theorem St.cnB_mem : ∀ {l : List (List St)} {b : List St}, b ∈ l → St.cnL b ≤ St.cnB l
  | a :: r, b, h => by
    rw [St.cnB]
    rcases List.mem_cons.1 h with rfl | h
    · omega
    · have := St.cnB_mem h; omega
theorem eqL_iff {α β : Type} {p : α → α → Bool} {f : α → β} : ∀ {xs ys : List α}, (∀ x ∈ xs, ∀ y ∈ ys, (p x y = true ↔ f x = f y)) → (eqL p xs ys = true ↔ xs.map f = ys.map f)
  | [], [], _ => by simp [eqL]
  | [], y :: ys, _ => by simp [eqL]
  | x :: xs, [], _ => by simp [eqL]
  | x :: xs, y :: ys, h => by
    rw [eqL, Bool.and_eq_true, h x (by simp) y (by simp), eqL_iff fun a ha b hb => h a (List.mem_cons_of_mem _ ha) b (List.mem_cons_of_mem _ hb)]
    simp
theorem Ex.same_iff (N : Nat) : ∀ (a b : Ex), a.pre.length ≤ N → (a.same b = true ↔ a.er = b.er) := by
  induction N with
  | zero => intro a b h; have := a.pre_pos; omega
  | succ N ih =>
    intro a b hN
    rw [Ex.same_eq, Ex.er_eq, Ex.er_eq b]
    simp only [Bool.and_eq_true, beq_iff_eq, Ex.mk.injEq, and_true]
    rw [eqL_iff (f := Ex.er) fun x hx y hy => ih x y (by have := a.pre_kid hx; omega)]
    constructor
    · rintro ⟨⟨⟨⟨h1, h2⟩, h3⟩, h4⟩, h5⟩
      exact ⟨h1, h2, h3, h4, h5⟩
    · rintro ⟨h1, h2, h3, h4, h5⟩
      exact ⟨⟨⟨⟨h1, h2⟩, h3⟩, h4⟩, h5⟩
theorem Ex.same_er (a b : Ex) : a.same b = true ↔ a.er = b.er := Ex.same_iff _ a b (Nat.le_refl _)
mutual
def St.er : St → St
  | ⟨kind, mon, name, n, e, blocks, _⟩ => ⟨kind, mon, name, n, e.er, St.erB blocks, 0⟩
def St.erL : List St → List St
  | [] => []
  | a :: r => a.er :: St.erL r
def St.erB : List (List St) → List (List St)
  | [] => []
  | b :: r => St.erL b :: St.erB r
end
theorem St.erL_map : ∀ l : List St, St.erL l = l.map St.er
  | [] => by simp [St.erL]
  | a :: r => by rw [St.erL, St.erL_map r]; rfl
theorem St.erB_map : ∀ l : List (List St), St.erB l = l.map (List.map St.er)
  | [] => by simp [St.erB]
  | b :: r => by rw [St.erB, St.erB_map r, St.erL_map]; rfl
theorem St.er_eq (y : St) : y.er = ⟨y.kind, y.mon, y.name, y.n, y.e.er, y.blocks.map (List.map St.er), 0⟩ := by
  cases y; rw [St.er, St.erB_map]
def Vr.er (v : Vr) : Vr := ⟨v.name, v.type, v.lo, v.hi, v.init, 0⟩
def Mt.er (f : Mt) : Mt := ⟨f.name, f.body.map St.er, 0⟩
def Mo.er (m : Mo) : Mo := ⟨m.name, m.vars.map Vr.er, m.methods.map Mt.er, 0⟩
def Ro.er (r : Ro) : Ro := ⟨r.name, r.star, r.count, r.body.map St.er, 0⟩
def Pg.er (p : Pg) : Pg := ⟨p.mons.map Mo.er, p.roles.map Ro.er⟩
theorem St.cn_pos (y : St) : 0 < y.cn := by cases y; rw [St.cn]; omega
theorem St.cn_kid {y : St} {b : List St} (hb : b ∈ y.blocks) {z : St} (hz : z ∈ b) : z.cn < y.cn := by
  have h1 := St.cnB_mem hb
  have h2 := St.cnL_mem hz
  cases y
  rw [St.cn]
  dsimp only at *
  omega
theorem St.same_iff (N : Nat) : ∀ (a b : St), a.cn ≤ N → (a.same b = true ↔ a.er = b.er) := by
  induction N with
  | zero => intro a b h; have := a.cn_pos; omega
  | succ N ih =>
    intro a b hN
    rw [St.same_eq, St.er_eq, St.er_eq b]
    simp only [Bool.and_eq_true, beq_iff_eq, St.mk.injEq, and_true]
    rw [eqL_iff (f := List.map St.er) fun x hx y hy => eqL_iff (f := St.er) fun u hu v hv => ih u v (by have := a.cn_kid hx hu; omega), Ex.same_er]
    constructor
    · rintro ⟨⟨⟨⟨⟨h1, h2⟩, h3⟩, h4⟩, h5⟩, h6⟩
      exact ⟨h1, h2, h3, h4, h5, h6⟩
    · rintro ⟨h1, h2, h3, h4, h5, h6⟩
      exact ⟨⟨⟨⟨⟨h1, h2⟩, h3⟩, h4⟩, h5⟩, h6⟩
theorem St.same_er (a b : St) : a.same b = true ↔ a.er = b.er := St.same_iff _ a b (Nat.le_refl _)
theorem sts_er (a b : List St) : eqL St.same a b = true ↔ a.map St.er = b.map St.er := eqL_iff fun x _ y _ => St.same_er x y
theorem Vr.same_er (a b : Vr) : a.same b = true ↔ a.er = b.er := by
  unfold Vr.same Vr.er
  simp only [Bool.and_eq_true, beq_iff_eq, Vr.mk.injEq, and_true, and_assoc]
theorem Mt.same_er (a b : Mt) : a.same b = true ↔ a.er = b.er := by
  unfold Mt.same Mt.er
  simp only [Bool.and_eq_true, beq_iff_eq, Mt.mk.injEq, and_true, sts_er]
theorem Mo.same_er (a b : Mo) : a.same b = true ↔ a.er = b.er := by
  unfold Mo.same Mo.er
  simp only [Bool.and_eq_true, beq_iff_eq, Mo.mk.injEq, and_true, and_assoc]
  rw [eqL_iff (f := Vr.er) fun x _ y _ => Vr.same_er x y, eqL_iff (f := Mt.er) fun x _ y _ => Mt.same_er x y]
theorem Ro.same_er (a b : Ro) : a.same b = true ↔ a.er = b.er := by
  unfold Ro.same Ro.er
  simp only [Bool.and_eq_true, beq_iff_eq, Ro.mk.injEq, and_true, and_assoc, sts_er]
theorem Pg.same_er (a b : Pg) : a.same b = true ↔ a.er = b.er := by
  unfold Pg.same Pg.er
  simp only [Bool.and_eq_true, Pg.mk.injEq]
  rw [eqL_iff (f := Mo.er) fun x _ y _ => Mo.same_er x y, eqL_iff (f := Ro.er) fun x _ y _ => Ro.same_er x y]
structure HeadIs (kind : Int) (mn nm : Str) (n : Int) (e : Ex) (len : Nat) : Prop where
  k : 1 ≤ kind ∧ kind ≤ 11
  n0 : 0 ≤ n
  n9 : kind ≠ 9 → n = 0
  mon : kind = 2 ∨ 7 ≤ kind → isName mn = true
  mon' : ¬ (kind = 2 ∨ 7 ≤ kind) → mn = []
  name : kind = 2 ∨ kind = 8 → isName nm = true
  name' : ¬ (kind = 2 ∨ kind = 8) → nm = []
  ex : kind = 2 ∨ kind = 3 ∨ kind = 4 → checkS e = 0
  ex' : ¬ (kind = 2 ∨ kind = 3 ∨ kind = 4) → e.op = 0 ∧ e.mon = [] ∧ e.name = [] ∧ e.n = 0 ∧ e.kids = []
  len0 : kind ≤ 2 ∨ 8 ≤ kind → len = 0
  len3 : kind = 3 → len = 1 ∨ len = 2
  len1 : kind = 4 ∨ kind = 5 ∨ kind = 7 → len = 1
  len6 : kind = 6 → 1 ≤ len ∧ len ≤ 8
theorem none_is {e : Ex} (h : isNoneS e = true) : e.op = 0 ∧ e.mon = [] ∧ e.name = [] ∧ e.n = 0 ∧ e.kids = [] := by
  unfold isNoneS at h
  simp only [Bool.and_eq_true, beq_iff_eq] at h
  exact ⟨h.1.1.1.1, h.1.1.1.2, h.1.1.2, h.1.2, List.eq_nil_of_length_eq_zero (by have := h.2; omega)⟩
theorem head_raw {kind : Int} {mon name : Str} {n : Int} {e : Ex} {len : Nat} (h : headOk kind mon name n e len = true) : isKind kind = true ∧ (formS kind).fewest ≤ (len : Int) ∧ (len : Int) ≤ (formS kind).most ∧ isNameW mon (formS kind).mon = true ∧ isNameW name (formS kind).name = true ∧ 0 ≤ n ∧ ((formS kind).num = false → n = 0) ∧ ((formS kind).ex = true → checkS e = 0) ∧ ((formS kind).ex = false → isNoneS e = true) := by
  unfold headOk at h
  split at h
  · cases h
  split at h
  · cases h
  split at h
  · cases h
  split at h
  · cases h
  split at h
  · cases h
  split at h
  · cases h
  split at h
  · cases h
  rename_i h1 h2 h3 h4 h5 h6 h7
  refine ⟨by simpa using h1, by omega, by omega, by simpa using h4, by simpa using h5, by omega, fun hf => ?_, fun he => ?_, fun he => ?_⟩
  · exact Classical.byContradiction fun hn => h7 ⟨hf, hn⟩
  · rw [if_pos he] at h; simpa using h
  · rw [if_neg (by rw [he]; simp)] at h; exact h
theorem nmW {s : Str} : isNameW s true = true ↔ isName s = true := by unfold isNameW; simp
theorem nmW' {s : Str} : isNameW s false = true ↔ s = [] := by unfold isNameW; simp
theorem head_is {kind : Int} {mon name : Str} {n : Int} {e : Ex} {len : Nat} (h : headOk kind mon name n e len = true) : HeadIs kind mon name n e len := by
  obtain ⟨h1, h2, h3, h4, h5, h6, h7, h8, h9⟩ := head_raw h
  have hk : kind = 1 ∨ kind = 2 ∨ kind = 3 ∨ kind = 4 ∨ kind = 5 ∨ kind = 6 ∨ kind = 7 ∨ kind = 8 ∨ kind = 9 ∨ kind = 10 ∨ kind = 11 := by
    unfold isKind at h1
    simp only [Bool.and_eq_true, decide_eq_true_eq] at h1
    omega
  have form : ∀ f : Fo, formS kind = f → f.fewest ≤ (len : Int) ∧ (len : Int) ≤ f.most ∧ isNameW mon f.mon = true ∧ isNameW name f.name = true ∧ 0 ≤ n ∧ (f.num = false → n = 0) ∧ (f.ex = true → checkS e = 0) ∧ (f.ex = false → isNoneS e = true) := fun f hf => hf ▸ ⟨h2, h3, h4, h5, h6, h7, h8, h9⟩
  clear h h1 h2 h3 h4 h5 h7 h8 h9
  rcases hk with rfl | rfl | rfl | rfl | rfl | rfl | rfl | rfl | rfl | rfl | rfl
  · obtain ⟨g1, g2, g3, g4, g5, g6, g7, g8⟩ := form fo0 rfl
    dsimp only [fo0] at *
    rw [nmW'] at g3 g4
    have g8 := none_is (g8 rfl)
    have g6 := g6 rfl
    constructor <;> intros <;> first | omega | assumption | exact g8
  · obtain ⟨g1, g2, g3, g4, g5, g6, g7, g8⟩ := form ⟨true, true, false, true, 0, 0⟩ rfl
    dsimp only at *
    rw [nmW] at g3 g4
    have g7 := g7 rfl
    have g6 := g6 rfl
    constructor <;> intros <;> first | omega | assumption
  · obtain ⟨g1, g2, g3, g4, g5, g6, g7, g8⟩ := form ⟨false, false, false, true, 1, 2⟩ rfl
    dsimp only at *
    rw [nmW'] at g3 g4
    have g7 := g7 rfl
    have g6 := g6 rfl
    constructor <;> intros <;> first | omega | assumption
  · obtain ⟨g1, g2, g3, g4, g5, g6, g7, g8⟩ := form ⟨false, false, false, true, 1, 1⟩ rfl
    dsimp only at *
    rw [nmW'] at g3 g4
    have g7 := g7 rfl
    have g6 := g6 rfl
    constructor <;> intros <;> first | omega | assumption
  · obtain ⟨g1, g2, g3, g4, g5, g6, g7, g8⟩ := form ⟨false, false, false, false, 1, 1⟩ rfl
    dsimp only at *
    rw [nmW'] at g3 g4
    have g8 := none_is (g8 rfl)
    have g6 := g6 rfl
    constructor <;> intros <;> first | omega | assumption | exact g8
  · obtain ⟨g1, g2, g3, g4, g5, g6, g7, g8⟩ := form ⟨false, false, false, false, 1, 8⟩ rfl
    dsimp only at *
    rw [nmW'] at g3 g4
    have g8 := none_is (g8 rfl)
    have g6 := g6 rfl
    constructor <;> intros <;> first | omega | assumption | exact g8
  · obtain ⟨g1, g2, g3, g4, g5, g6, g7, g8⟩ := form ⟨true, false, false, false, 1, 1⟩ rfl
    dsimp only at *
    rw [nmW] at g3
    rw [nmW'] at g4
    have g8 := none_is (g8 rfl)
    have g6 := g6 rfl
    constructor <;> intros <;> first | omega | assumption | exact g8
  · obtain ⟨g1, g2, g3, g4, g5, g6, g7, g8⟩ := form ⟨true, true, false, false, 0, 0⟩ rfl
    dsimp only at *
    rw [nmW] at g3 g4
    have g8 := none_is (g8 rfl)
    have g6 := g6 rfl
    constructor <;> intros <;> first | omega | assumption | exact g8
  · obtain ⟨g1, g2, g3, g4, g5, g6, g7, g8⟩ := form ⟨true, false, true, false, 0, 0⟩ rfl
    dsimp only at *
    rw [nmW] at g3
    rw [nmW'] at g4
    have g8 := none_is (g8 rfl)
    constructor <;> intros <;> first | omega | assumption | exact g8
  · obtain ⟨g1, g2, g3, g4, g5, g6, g7, g8⟩ := form ⟨true, false, false, false, 0, 0⟩ rfl
    dsimp only at *
    rw [nmW] at g3
    rw [nmW'] at g4
    have g8 := none_is (g8 rfl)
    have g6 := g6 rfl
    constructor <;> intros <;> first | omega | assumption | exact g8
  · obtain ⟨g1, g2, g3, g4, g5, g6, g7, g8⟩ := form ⟨true, false, false, false, 0, 0⟩ rfl
    dsimp only at *
    rw [nmW] at g3
    rw [nmW'] at g4
    have g8 := none_is (g8 rfl)
    have g6 := g6 rfl
    constructor <;> intros <;> first | omega | assumption | exact g8
/-- A statement that is right, its numbers those of a machine. -/
inductive StK : St → Prop
  | mk {kind : Int} {mon name : Str} {n : Int} {e : Ex} {blocks : List (List St)} {pl : Int} (hk : HeadIs kind mon name n e blocks.length) (hn : R64 n) (he : ∀ y ∈ e.pre, R64 y.n) (k : ∀ b ∈ blocks, ∀ y ∈ b, StK y) : StK ⟨kind, mon, name, n, e, blocks, pl⟩
theorem headOk_mk {kind : Int} {mon name : Str} {n : Int} {e : Ex} {len : Nat} {f : Fo} (hf : formS kind = f) (h1 : isKind kind = true) (h2 : f.fewest ≤ (len : Int)) (h3 : (len : Int) ≤ f.most) (h4 : isNameW mon f.mon = true) (h5 : isNameW name f.name = true) (h6 : 0 ≤ n) (h7 : f.num = false → n = 0) (h8 : (if f.ex = true then (checkS e == 0) else isNoneS e) = true) : headOk kind mon name n e len = true := by
  unfold headOk
  rw [hf, if_neg (by rw [h1]; simp), if_neg (by omega), if_neg (by omega), if_neg (by rw [h4]; simp), if_neg (by rw [h5]; simp), if_neg (by omega), if_neg (fun k => k.2 (h7 k.1))]
  exact h8
end Go.Proofs.YtmflfcbebeikcaaGreat.Q

namespace Go.Proofs.YtmflfcbebeikcaaGreat.Q
open Go.RowKit
variable [Amb]
theorem St.blocks_size {l : List St} {i k : Nat} (hi : i < l.length) (hk : k < l[i].blocks.length) : SizeOf.sizeOf l[i].blocks[k] < SizeOf.sizeOf l := by
  have h1 := List.sizeOf_lt_of_mem (List.getElem_mem hi)
  have h2 := List.sizeOf_lt_of_mem (List.getElem_mem hk)
  have h3 : SizeOf.sizeOf l[i].blocks < SizeOf.sizeOf l[i] := by
    generalize l[i] = s
    cases s
    simp
    omega
  omega
theorem cnL_app : ∀ a b : List St, St.cnL (a ++ b) = St.cnL a + St.cnL b
  | [], b => by rw [List.nil_append, St.cnL]; omega
  | y :: a, b => by rw [List.cons_append, St.cnL, St.cnL, cnL_app a b]; omega
theorem cnB_app : ∀ a b : List (List St), St.cnB (a ++ b) = St.cnB a + St.cnB b
  | [], b => by rw [List.nil_append, St.cnB]; omega
  | y :: a, b => by rw [List.cons_append, St.cnB, St.cnB, cnB_app a b]; omega
theorem cnL_take {l : List St} {k : Nat} (h : k < l.length) : St.cnL (l.take (k + 1)) = St.cnL (l.take k) + l[k].cn := by
  rw [List.take_succ_eq_append_getElem h, cnL_app, St.cnL, St.cnL]; omega
theorem cnB_take {l : List (List St)} {k : Nat} (h : k < l.length) : St.cnB (l.take (k + 1)) = St.cnB (l.take k) + St.cnL l[k] := by
  rw [List.take_succ_eq_append_getElem h, cnB_app, St.cnB, St.cnB]; omega
theorem mem_take {α : Type} {l : List α} {k : Nat} (h : k < l.length) {p : α → Prop} (h1 : ∀ y ∈ l.take k, p y) (h2 : p l[k]) : ∀ y ∈ l.take (k + 1), p y := fun y hy => by
  rw [List.take_succ_eq_append_getElem h, List.mem_append, List.mem_singleton] at hy
  rcases hy with hy | rfl
  · exact h1 y hy
  · exact h2
/-- An expression that is small. -/
def SmE (e : Ex) : Prop := e.pre.length ≤ 10000 ∧ ∀ y ∈ e.pre, y.kids.length ≤ 10000 ∧ y.mon.length ≤ 10000 ∧ y.name.length ≤ 10000
/-- A statement that is small. -/
inductive SmS : St → Prop
  | mk {kind : Int} {mon name : Str} {n : Int} {e : Ex} {blocks : List (List St)} {pl : Int} (hm : mon.length ≤ 10000) (hn : name.length ≤ 10000) (he : SmE e) (hb : blocks.length ≤ 40) (hl : ∀ b ∈ blocks, b.length ≤ 10000) (k : ∀ b ∈ blocks, ∀ y ∈ b, SmS y) : SmS ⟨kind, mon, name, n, e, blocks, pl⟩
structure SmL (l : List St) : Prop where
  len : l.length ≤ 10000
  cn : St.cnL l ≤ 10000
  all : ∀ y ∈ l, SmS y
def RestX (l : List St) (n z : Int) : Prop := 0 ≤ z → (∀ y ∈ l, SmS y) ∧ l.length ≤ 1000 ∧ z + St.cnL l ≤ n
theorem rest_c (N : Nat) : ∀ (l : List St) (n : Int), SizeOf.sizeOf l ≤ N → -1 ≤ n → n ≤ 1000 → PCalls Tryz.prog 12 [.d (.sl (l.map St.c)), iv n] [] (Left n (RestX l n)) := by
  induction N with
  | zero => intro l n h; cases l <;> simp at h
  | succ N ih =>
    intro l n hN hn0 hn1
    refine fn_sem pok 80 0 Tryz.func12 (by kernel_rfl) rfl rfl rfl rfl ?_
    refine SWp.go pok (by kernel_rfl) ?_
    refine brP_split (fun h => ?_) (fun h => ?_)
    · exact ⟨-1, rfl, rfl, by omega, by omega, fun h => by omega⟩
    have hl : (l.length : Int) ≤ n := by simp at h; omega
    refine SWp.loop (fun q : Nat × Int => q.1 ≤ l.length ∧ -1 ≤ q.2 ∧ q.2 ≤ n ∧ (0 ≤ q.2 → (∀ y ∈ l.take q.1, SmS y) ∧ q.2 + St.cnL (l.take q.1) ≤ n)) (fun q => ([(0, .d (.sl (l.map St.c))), (1, iv q.2), (5, iv q.1)], [])) (fun q => l.length - q.1) (0, n) ⟨Nat.zero_le _, hn0, Int.le_refl _, fun _ => ⟨by simp, by simp [St.cnL]⟩⟩ (Le.same ⟨rfl, rfl, rfl, trivial⟩) (fun q hq => ?_)
    obtain ⟨i, m⟩ := q
    obtain ⟨hi, hm0, hm1, hX⟩ := hq
    simp only at hi hm0 hm1 hX
    have fin : (i = l.length ∨ m < 0) → RestX l n m := fun hor h0 => by
      have : i = l.length := by omega
      subst this
      rw [List.take_length] at hX
      exact ⟨(hX h0).1, by omega, (hX h0).2⟩
    refine SWp.go pok (by kernel_rfl) ?_
    refine brP_split (fun h => ?_) (fun h => ?_)
    rotate_left
    · exact ⟨m, rfl, rfl, hm0, hm1, fin (by simp at h; omega)⟩
    have hlt : i < l.length := by simpa using h
    refine brP_split (fun h2 => ?_) (fun h2 => ?_)
    rotate_left
    · exact ⟨m, rfl, rfl, hm0, hm1, fin (by simp at h2; omega)⟩
    have h2 : 0 ≤ m := by simpa using h2
    obtain ⟨hX1, hX2⟩ := hX h2
    refine St.inRow hlt ?_
    refine brP_split (fun h => ?_) (fun h => ?_)
    · exact ⟨-1, rfl, rfl, by omega, by omega, fun h => by omega⟩
    have hmo : l[i].mon.length ≤ 200 := by simp at h; omega
    refine St.inRow hlt ?_
    refine brP_split (fun h => ?_) (fun h => ?_)
    · exact ⟨-1, rfl, rfl, by omega, by omega, fun h => by omega⟩
    have hna : l[i].name.length ≤ 200 := by simp at h; omega
    refine St.inRow hlt ?_
    refine brP_split (fun h => ?_) (fun h => ?_)
    · exact ⟨-1, rfl, rfl, by omega, by omega, fun h => by omega⟩
    have hbl : l[i].blocks.length ≤ 40 := by simp at h; omega
    refine St.inRow hlt ?_
    have hsub : IntKind.i64.wrap (m - 1) = m - 1 := wrap_in (by unfold R64; omega)
    have hc := restExpr_c _ l[i].e (m - 1) (Nat.le_refl _) (by omega) (by omega)
    rw [← hsub] at hc
    refine PCalls.mono hc ?_
    rintro r h' ⟨z, rfl, rfl, z0, z1, zX⟩
    rw [hsub] at z1 zX
    refine SWp.loop (fun q : Nat × Int => q.1 ≤ l[i].blocks.length ∧ -1 ≤ q.2 ∧ q.2 ≤ n ∧ (0 ≤ q.2 → (∀ b ∈ l[i].blocks.take q.1, b.length ≤ 1000 ∧ ∀ y ∈ b, SmS y) ∧ q.2 + St.cnB (l[i].blocks.take q.1) ≤ z)) (fun q => ([(0, .d (.sl (l.map St.c))), (1, iv q.2), (5, iv i), (6, iv q.1)], [])) (fun q => l[i].blocks.length - q.1) (0, z) ⟨Nat.zero_le _, z0, by show z ≤ n; omega, fun _ => ⟨by simp, by simp [St.cnB]⟩⟩ (Le.same ⟨rfl, rfl, rfl, rfl, trivial⟩) (fun q hq => ?_)
    obtain ⟨k, u⟩ := q
    obtain ⟨hk, hu0, hu1, hU⟩ := hq
    simp only at hk hu0 hu1 hU
    have fin2 : (k = l[i].blocks.length ∨ u < 0) → 0 ≤ u → (∀ y ∈ l.take (i + 1), SmS y) ∧ u + St.cnL (l.take (i + 1)) ≤ n := fun hor h0 => by
      have hkl : k = l[i].blocks.length := by omega
      rw [hkl, List.take_length] at hU
      obtain ⟨hU1, hU2⟩ := hU h0
      obtain ⟨hE1, hE2⟩ := zX (by omega)
      refine ⟨mem_take hlt hX1 ?_, ?_⟩
      · generalize l[i] = y at *
        obtain ⟨kind, mon, name, nn, e, blocks, pl⟩ := y
        dsimp only at *
        exact .mk (by omega) (by omega) ⟨by omega, fun y hy => by have := hE2 y hy; omega⟩ hbl (fun b hb => by have := (hU1 b hb).1; omega) (fun b hb => (hU1 b hb).2)
      · rw [cnL_take hlt]
        have hcn : l[i].cn = 1 + St.cnB l[i].blocks := by
          generalize l[i] = y
          cases y
          rw [St.cn]
        omega
    refine SWp.go pok (by kernel_rfl) ?_
    refine St.inRow hlt ?_
    refine brP_split (fun h => ?_) (fun h => ?_)
    rotate_left
    · exact ⟨(i + 1, u), ⟨hlt, hu0, hu1, fin2 (by simp at h; omega)⟩, by show l.length - (i + 1) < l.length - i; omega, Le.same ⟨rfl, rfl, sint (wrap_nat i (by omega)), trivial⟩⟩
    have hkl : k < l[i].blocks.length := by simpa using h
    refine brP_split (fun h3 => ?_) (fun h3 => ?_)
    rotate_left
    · exact ⟨(i + 1, u), ⟨hlt, hu0, hu1, fin2 (by simp at h3; omega)⟩, by show l.length - (i + 1) < l.length - i; omega, Le.same ⟨rfl, rfl, sint (wrap_nat i (by omega)), trivial⟩⟩
    have h3 : 0 ≤ u := by simpa using h3
    obtain ⟨hU1, hU2⟩ := hU h3
    refine St.inRow hlt ?_
    refine PIdx.map (get_at hkl) ?_
    have hsub : IntKind.i64.wrap (u - 1) = u - 1 := wrap_in (by unfold R64; omega)
    have hsz := St.blocks_size hlt hkl
    have hc := ih l[i].blocks[k] (u - 1) (by omega) (by omega) (by omega)
    rw [← hsub] at hc
    refine PCalls.mono hc ?_
    rintro r h' ⟨w, rfl, rfl, w0, w1, wX⟩
    rw [hsub] at w1 wX
    refine ⟨(k + 1, w), ⟨hkl, w0, by show w ≤ n; omega, fun h0 => ?_⟩, by show l[i].blocks.length - (k + 1) < l[i].blocks.length - k; omega, Le.same ⟨rfl, rfl, rfl, sint (wrap_nat k (by omega)), trivial⟩⟩
    obtain ⟨g1, g2, g3⟩ := wX h0
    refine ⟨mem_take hkl hU1 ⟨g2, g1⟩, ?_⟩
    show w + ((St.cnB (l[i].blocks.take (k + 1)) : Nat) : Int) ≤ z
    rw [cnB_take hkl]
    omega
/-! ### programs -/
structure SmMo (m : Mo) : Prop where
  name : m.name.length ≤ 200
  vlen : m.vars.length ≤ 40
  mlen : m.methods.length ≤ 40
  vars : ∀ v ∈ m.vars, v.name.length ≤ 200
  meths : ∀ f ∈ m.methods, f.name.length ≤ 200 ∧ SmL f.body
structure SmP (p : Pg) : Prop where
  mlen : p.mons.length ≤ 20
  rlen : p.roles.length ≤ 20
  mons : ∀ m ∈ p.mons, SmMo m
  roles : ∀ r ∈ p.roles, r.name.length ≤ 200 ∧ SmL r.body
def Small (p : Pg) : V → List Ob → Prop := fun r h' => ∃ b : Bool, r = .d (.bool b) ∧ h' = [] ∧ (b = true → SmP p)
theorem Small.no (p : Pg) : Small p (.d (.bool false)) [] := ⟨false, rfl, rfl, fun h => by cases h⟩
theorem SmL.of {l : List St} {n z : Int} (h : RestX l n z) (h0 : 0 ≤ z) (hn : n ≤ 1000) : SmL l := by
  obtain ⟨h1, h2, h3⟩ := h h0
  exact ⟨by omega, by omega, h1⟩
theorem small02_c (p : Pg) (n : Int) (hn0 : -1 ≤ n) (hn1 : n ≤ 1000) : PCalls Tryz.prog 4 [p.v, iv n] [] (Small p) := by
  refine fn_sem pok 113 0 Tryz.func4 (by kernel_rfl) rfl rfl rfl rfl ?_
  refine SWp.go pok (by kernel_rfl) ?_
  refine brP_split (fun h => ?_) (fun h => ?_)
  · exact Small.no p
  have hml : p.mons.length ≤ 20 := by simp at h; omega
  refine brP_split (fun h => ?_) (fun h => ?_)
  · exact Small.no p
  have hrl : p.roles.length ≤ 20 := by simp at h; omega
  refine SWp.loop (fun q : Nat × Int => q.1 ≤ p.mons.length ∧ -1 ≤ q.2 ∧ q.2 ≤ n ∧ (0 ≤ q.2 → ∀ m ∈ p.mons.take q.1, SmMo m))
    (fun q => ([(2, .ptr 0 0), (5, iv q.2), (6, iv q.1)], [.box [.d (.sl (p.mons.map Mo.c)), .d (.sl (p.roles.map Ro.c))]])) (fun q => p.mons.length - q.1) (0, n) ⟨Nat.zero_le _, hn0, Int.le_refl _, fun _ => by simp⟩ (Le.same ⟨rfl, rfl, rfl, trivial⟩) (fun q hq => ?_)
  obtain ⟨i, m⟩ := q
  obtain ⟨hi, hm0, hm1, hX⟩ := hq
  simp only at hi hm0 hm1 hX
  refine SWp.go pok (by kernel_rfl) ?_
  refine brP_split (fun h => ?_) (fun h => ?_)
  · have hlt : i < p.mons.length := by simpa using h
    refine PIdx.map (get_at hlt) ?_
    refine brP_split (fun h => ?_) (fun h => ?_)
    · exact Small.no p
    have hvl : p.mons[i].vars.length ≤ 40 := by simp at h; omega
    refine brP_split (fun h => ?_) (fun h => ?_)
    · exact Small.no p
    have hme : p.mons[i].methods.length ≤ 40 := by simp at h; omega
    refine brP_split (fun h => ?_) (fun h => ?_)
    · exact Small.no p
    have hnm : p.mons[i].name.length ≤ 200 := by simp at h; omega
    refine SWp.loop (fun k : Nat => k ≤ p.mons[i].vars.length ∧ ∀ v ∈ p.mons[i].vars.take k, v.name.length ≤ 200)
      (fun k => ([(2, .ptr 0 0), (5, iv m), (6, iv i), (7, .ptr 1 0), (8, iv k)], [.box [.d (.sl (p.mons.map Mo.c)), .d (.sl (p.roles.map Ro.c))], .box [sv' p.mons[i].name, .d (.sl (p.mons[i].vars.map Vr.c)), .d (.sl (p.mons[i].methods.map Mt.c)), iv p.mons[i].pl]]))
      (fun k => p.mons[i].vars.length - k) 0 ⟨Nat.zero_le _, by simp⟩ (Le.same ⟨rfl, rfl, rfl, rfl, rfl, trivial⟩) (fun k hk => ?_)
    obtain ⟨hk, hvn⟩ := hk
    refine SWp.go pok (by kernel_rfl) ?_
    refine brP_split (fun h => ?_) (fun h => ?_)
    · have hkl : k < p.mons[i].vars.length := by simpa using h
      refine PIdx.map (get_at hkl) ?_
      refine brP_split (fun h => ?_) (fun h => ?_)
      · exact Small.no p
      have hv1 : p.mons[i].vars[k].name.length ≤ 200 := by simp at h; omega
      exact ⟨k + 1, ⟨hkl, mem_take hkl hvn hv1⟩, by omega, Le.same ⟨rfl, rfl, rfl, rfl, sint (wrap_nat k (by omega)), trivial⟩⟩
    have hkv : k = p.mons[i].vars.length := by simp at h; omega
    subst hkv
    rw [List.take_length] at hvn
    refine SWp.loop (fun q : Nat × Int => q.1 ≤ p.mons[i].methods.length ∧ -1 ≤ q.2 ∧ q.2 ≤ n ∧ (0 ≤ q.2 → 0 ≤ m ∧ ∀ f ∈ p.mons[i].methods.take q.1, f.name.length ≤ 200 ∧ SmL f.body))
      (fun q => ([(2, .ptr 0 0), (5, iv q.2), (6, iv i), (7, .ptr 1 0), (9, iv q.1)], [.box [.d (.sl (p.mons.map Mo.c)), .d (.sl (p.roles.map Ro.c))], .box [sv' p.mons[i].name, .d (.sl (p.mons[i].vars.map Vr.c)), .d (.sl (p.mons[i].methods.map Mt.c)), iv p.mons[i].pl]]))
      (fun q => p.mons[i].methods.length - q.1) (0, m) ⟨Nat.zero_le _, hm0, hm1, fun h => ⟨h, by simp⟩⟩ (Le.same ⟨rfl, rfl, rfl, rfl, rfl, trivial⟩) (fun q hq => ?_)
    obtain ⟨k, u⟩ := q
    obtain ⟨hk, hu0, hu1, hU⟩ := hq
    simp only at hk hu0 hu1 hU
    refine SWp.go pok (by kernel_rfl) ?_
    refine brP_split (fun h => ?_) (fun h => ?_)
    · have hkl : k < p.mons[i].methods.length := by simpa using h
      refine PIdx.map (get_at hkl) ?_
      refine brP_split (fun h => ?_) (fun h => ?_)
      · exact Small.no p
      have hf1 : p.mons[i].methods[k].name.length ≤ 200 := by simp at h; omega
      refine PIdx.map (get_at hkl) ?_
      refine PCalls.mono (rest_c _ p.mons[i].methods[k].body u (Nat.le_refl _) hu0 (by omega)) ?_
      rintro r h' ⟨z, rfl, rfl, z0, z1, zX⟩
      exact ⟨(k + 1, z), ⟨hkl, z0, by show z ≤ n; omega, fun h0 => ⟨(hU (by have : 0 ≤ z := h0; omega)).1, mem_take hkl (hU (by have : 0 ≤ z := h0; omega)).2 ⟨hf1, SmL.of zX h0 (by omega)⟩⟩⟩, by show p.mons[i].methods.length - (k + 1) < p.mons[i].methods.length - k; omega, Le.same ⟨rfl, rfl, rfl, rfl, sint (wrap_nat k (by omega)), trivial⟩⟩
    · have hkm : k = p.mons[i].methods.length := by simp at h; omega
      subst hkm
      rw [List.take_length] at hU
      exact ⟨(i + 1, u), ⟨hlt, hu0, hu1, fun h0 => mem_take hlt (hX (hU h0).1) ⟨hnm, hvl, hme, hvn, (hU h0).2⟩⟩, by show p.mons.length - (i + 1) < p.mons.length - i; omega, .inr ⟨[0], ⟨rfl, rfl⟩, rfl, rfl, rfl, sint (wrap_nat i (by omega)), trivial⟩⟩
  · have hi' : i = p.mons.length := by simp at h; omega
    subst hi'
    rw [List.take_length] at hX
    refine SWp.loop (fun q : Nat × Int => q.1 ≤ p.roles.length ∧ -1 ≤ q.2 ∧ q.2 ≤ n ∧ (0 ≤ q.2 → 0 ≤ m ∧ ∀ r ∈ p.roles.take q.1, r.name.length ≤ 200 ∧ SmL r.body))
      (fun q => ([(2, .ptr 0 0), (5, iv q.2), (10, iv q.1)], [.box [.d (.sl (p.mons.map Mo.c)), .d (.sl (p.roles.map Ro.c))]])) (fun q => p.roles.length - q.1) (0, m) ⟨Nat.zero_le _, hm0, hm1, fun h => ⟨h, by simp⟩⟩ (Le.same ⟨rfl, rfl, rfl, trivial⟩) (fun q hq => ?_)
    obtain ⟨k, u⟩ := q
    obtain ⟨hk, hu0, hu1, hU⟩ := hq
    simp only at hk hu0 hu1 hU
    refine SWp.go pok (by kernel_rfl) ?_
    refine brP_split (fun h => ?_) (fun h => ?_)
    · have hkl : k < p.roles.length := by simpa using h
      refine PIdx.map (get_at hkl) ?_
      refine brP_split (fun h => ?_) (fun h => ?_)
      · exact Small.no p
      have hr1 : p.roles[k].name.length ≤ 200 := by simp at h; omega
      refine PIdx.map (get_at hkl) ?_
      refine PCalls.mono (rest_c _ p.roles[k].body u (Nat.le_refl _) hu0 (by omega)) ?_
      rintro r h' ⟨z, rfl, rfl, z0, z1, zX⟩
      exact ⟨(k + 1, z), ⟨hkl, z0, by show z ≤ n; omega, fun h0 => ⟨(hU (by have : 0 ≤ z := h0; omega)).1, mem_take hkl (hU (by have : 0 ≤ z := h0; omega)).2 ⟨hr1, SmL.of zX h0 (by omega)⟩⟩⟩, by show p.roles.length - (k + 1) < p.roles.length - k; omega, Le.same ⟨rfl, rfl, sint (wrap_nat k (by omega)), trivial⟩⟩
    · have hkr : k = p.roles.length := by simp at h; omega
      subst hkr
      rw [List.take_length] at hU
      refine brP_split (fun h => ?_) (fun h => ?_)
      · have h0 : 0 ≤ u := by simpa using h
        exact ⟨true, rfl, rfl, fun _ => ⟨hml, hrl, hX (hU h0).1, (hU h0).2⟩⟩
      · exact Small.no p
end Go.Proofs.YtmflfcbebeikcaaGreat.Q

namespace Go.Proofs.YtmflfcbebeikcaaGreat.Q
open Go.RowKit
/-- Numbers of a machine. -/
inductive StNum : St → Prop
  | mk {kind : Int} {mon name : Str} {n : Int} {e : Ex} {blocks : List (List St)} {pl : Int} (hn : R64 n) (he : e.nums) (k : ∀ b ∈ blocks, ∀ y ∈ b, StNum y) : StNum ⟨kind, mon, name, n, e, blocks, pl⟩
def VrNum (v : Vr) : Prop := R64 v.lo ∧ R64 v.hi ∧ R64 v.init
def MoNum (m : Mo) : Prop := (∀ v ∈ m.vars, VrNum v) ∧ ∀ f ∈ m.methods, ∀ y ∈ f.body, StNum y
def PgNum (p : Pg) : Prop := (∀ m ∈ p.mons, MoNum m) ∧ ∀ r ∈ p.roles, R64 r.count ∧ ∀ y ∈ r.body, StNum y
theorem rd_St (fuel : Nat) : RdD Tryz.prog fuel 56 (fun r => ∃ x : St, StNum x ∧ r = x.c) := by
  induction fuel using Nat.strongRecOn with
  | _ fuel ih =>
    refine (rdD_struct (fs := [(3, 0), (9, 1), (9, 2), (2, 3), (53, 4), (54, 10), (3, 11)]) (by kernel_rfl) (sz := 1 + (1 + (1 + (1 + (6 + (1 + 1)))))) (by kernel_rfl) fuel fun m hm =>
      frD_cons (by kernel_rfl) (rd_int m) (frD_cons (by kernel_rfl) (rd_str m) (frD_cons (by kernel_rfl) (rd_str m) (frD_cons (by kernel_rfl) (rd_int64 m) (frD_cons (by kernel_rfl) (rd_Ex m)
        (frD_cons (by kernel_rfl) (rdD_slice (sz := 1) (e := 45) (by kernel_rfl) (by kernel_rfl) (by decide) m fun m' hm' => rdD_slice (sz := 12) (e := 56) (by kernel_rfl) (by kernel_rfl) (by decide) m' fun m'' hm'' => ih m'' (by omega)) (frD_last (by kernel_rfl) (rd_int m)))))))).mono ?_
    rintro r ⟨_, _, ⟨kind, h1, rfl⟩, ⟨_, _, ⟨mon, h2, rfl⟩, ⟨_, _, ⟨name, h3, rfl⟩, ⟨_, _, ⟨n, h4, rfl⟩, ⟨_, _, ⟨e, h5, rfl⟩, ⟨_, _, ⟨rows, h6, h7, rfl⟩, ⟨pl, h8, rfl⟩, rfl⟩, rfl⟩, rfl⟩, rfl⟩, rfl⟩, rfl⟩
    obtain ⟨bs, rfl, hbs⟩ := rows_map (f := blk) (p := fun b => ∀ y ∈ b, StNum y) (rows := rows) fun q hq => by
      obtain ⟨qs, k1, k2, rfl⟩ := h6 q hq
      obtain ⟨b, rfl, hb⟩ := rows_map k1
      exact ⟨b, hb, rfl⟩
    exact ⟨⟨kind, mon, name, n, e, bs, pl⟩, .mk h4 h5 hbs, by letI : Amb := ambD; rw [St.c_eq]; simp⟩
theorem rd_body (fuel : Nat) : RdD Tryz.prog fuel 45 (fun r => ∃ l : List St, (∀ y ∈ l, StNum y) ∧ r = [.sl (l.map St.c)]) :=
  (rdD_slice (sz := 12) (e := 56) (by kernel_rfl) (by kernel_rfl) (by decide) fuel fun m _ => rd_St m).mono fun r ⟨rows, h1, h2, e⟩ => by
    obtain ⟨l, rfl, h3⟩ := rows_map h1
    exact ⟨l, h3, e⟩
theorem rd_Vr (fuel : Nat) : RdD Tryz.prog fuel 44 (fun r => ∃ x : Vr, VrNum x ∧ r = x.c) := by
  refine (rdD_struct (fs := [(9, 0), (3, 1), (2, 2), (2, 3), (2, 4), (3, 5)]) (by kernel_rfl) (sz := 1 + (1 + (1 + (1 + (1 + 1))))) (by kernel_rfl) fuel fun m hm =>
    frD_cons (by kernel_rfl) (rd_str m) (frD_cons (by kernel_rfl) (rd_int m) (frD_cons (by kernel_rfl) (rd_int64 m) (frD_cons (by kernel_rfl) (rd_int64 m) (frD_cons (by kernel_rfl) (rd_int64 m) (frD_last (by kernel_rfl) (rd_int m))))))).mono ?_
  rintro r ⟨_, _, ⟨a, _, rfl⟩, ⟨_, _, ⟨b, _, rfl⟩, ⟨_, _, ⟨c, hc, rfl⟩, ⟨_, _, ⟨d, hd, rfl⟩, ⟨_, _, ⟨e, he, rfl⟩, ⟨f, _, rfl⟩, rfl⟩, rfl⟩, rfl⟩, rfl⟩, rfl⟩
  exact ⟨⟨a, b, c, d, e, f⟩, ⟨hc, hd, he⟩, rfl⟩
theorem rd_Mt (fuel : Nat) : RdD Tryz.prog fuel 47 (fun r => ∃ x : Mt, (∀ y ∈ x.body, StNum y) ∧ r = x.c) := by
  refine (rdD_struct (fs := [(9, 0), (45, 1), (3, 2)]) (by kernel_rfl) (sz := 1 + (1 + 1)) (by kernel_rfl) fuel fun m hm =>
    frD_cons (by kernel_rfl) (rd_str m) (frD_cons (by kernel_rfl) (rd_body m) (frD_last (by kernel_rfl) (rd_int m)))).mono ?_
  rintro r ⟨_, _, ⟨a, _, rfl⟩, ⟨_, _, ⟨b, hb, rfl⟩, ⟨c, _, rfl⟩, rfl⟩, rfl⟩
  exact ⟨⟨a, b, c⟩, hb, rfl⟩
theorem rd_Mo (fuel : Nat) : RdD Tryz.prog fuel 42 (fun r => ∃ x : Mo, MoNum x ∧ r = x.c) := by
  refine (rdD_struct (fs := [(9, 0), (39, 1), (40, 2), (3, 3)]) (by kernel_rfl) (sz := 1 + (1 + (1 + 1))) (by kernel_rfl) fuel fun m hm =>
    frD_cons (by kernel_rfl) (rd_str m) (frD_cons (by kernel_rfl) (rdD_slice (sz := 6) (e := 44) (by kernel_rfl) (by kernel_rfl) (by decide) m fun m' _ => rd_Vr m') (frD_cons (by kernel_rfl) (rdD_slice (sz := 3) (e := 47) (by kernel_rfl) (by kernel_rfl) (by decide) m fun m' _ => rd_Mt m') (frD_last (by kernel_rfl) (rd_int m))))).mono ?_
  rintro r ⟨_, _, ⟨a, _, rfl⟩, ⟨_, _, ⟨vs, k1, _, rfl⟩, ⟨_, _, ⟨ms, k2, _, rfl⟩, ⟨c, _, rfl⟩, rfl⟩, rfl⟩, rfl⟩
  obtain ⟨l1, rfl, g1⟩ := rows_map k1
  obtain ⟨l2, rfl, g2⟩ := rows_map k2
  exact ⟨⟨a, l1, l2, c⟩, ⟨g1, g2⟩, rfl⟩
theorem rd_Ro (fuel : Nat) : RdD Tryz.prog fuel 50 (fun r => ∃ x : Ro, (R64 x.count ∧ ∀ y ∈ x.body, StNum y) ∧ r = x.c) := by
  refine (rdD_struct (fs := [(9, 0), (4, 1), (2, 2), (45, 3), (3, 4)]) (by kernel_rfl) (sz := 1 + (1 + (1 + (1 + 1)))) (by kernel_rfl) fuel fun m hm =>
    frD_cons (by kernel_rfl) (rd_str m) (frD_cons (by kernel_rfl) (rd_bool m) (frD_cons (by kernel_rfl) (rd_int64 m) (frD_cons (by kernel_rfl) (rd_body m) (frD_last (by kernel_rfl) (rd_int m)))))).mono ?_
  rintro r ⟨_, _, ⟨a, _, rfl⟩, ⟨_, _, ⟨b, rfl⟩, ⟨_, _, ⟨c, hc, rfl⟩, ⟨_, _, ⟨d, hd, rfl⟩, ⟨e, _, rfl⟩, rfl⟩, rfl⟩, rfl⟩, rfl⟩
  exact ⟨⟨a, b, c, d, e⟩, ⟨hc, hd⟩, rfl⟩
theorem rd_Pg (fuel : Nat) : RdD Tryz.prog fuel 25 (fun r => ∃ x : Pg, PgNum x ∧ r = [.sl (x.mons.map Mo.c), .sl (x.roles.map Ro.c)]) := by
  refine (rdD_struct (fs := [(22, 0), (23, 1)]) (by kernel_rfl) (sz := 1 + 1) (by kernel_rfl) fuel fun m hm =>
    frD_cons (by kernel_rfl) (rdD_slice (sz := 4) (e := 42) (by kernel_rfl) (by kernel_rfl) (by decide) m fun m' _ => rd_Mo m') (frD_last (by kernel_rfl) (rdD_slice (sz := 5) (e := 50) (by kernel_rfl) (by kernel_rfl) (by decide) m fun m' _ => rd_Ro m'))).mono ?_
  rintro r ⟨_, _, ⟨vs, k1, _, rfl⟩, ⟨ms, k2, _, rfl⟩, rfl⟩
  obtain ⟨l1, rfl, g1⟩ := rows_map k1
  obtain ⟨l2, rfl, g2⟩ := rows_map k2
  exact ⟨⟨l1, l2⟩, ⟨g1, g2⟩, rfl⟩
section
variable {H : Type} {enc : TypeId × Value → H} {d : DataW H} {p : List MemPlace} {base : Nat}
theorem read_Pg (W : World) (v : Value) (hv : Value.okWide Tryz.prog W .any base 25 v) (h : DataW.Trod enc Tryz.prog W 0 (fun _ => true) true 25 v d p) : ∃ x : Pg, PgNum x ∧ x.v.rep (allG W) (fun _ _ => none) v := by
  obtain ⟨r, ⟨x, hx, rfl⟩, hr⟩ := read_agg (fs := [(22, 0), (23, 1)]) (by kernel_rfl) rd_Pg hv h
  exact ⟨x, hx, hr⟩
end
end Go.Proofs.YtmflfcbebeikcaaGreat.Q
