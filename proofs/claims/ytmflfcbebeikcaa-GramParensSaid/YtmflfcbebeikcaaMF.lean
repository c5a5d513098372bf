/- Trees' shapes; expressions' bound. No condition. -/
import Derived.Test.YtmflfcbebeikcaaMD
import Derived.Test.YtmflfcbebeikcaaMC
import Derived.Test.YtmflfcbebeikcaaME
set_option linter.unusedVariables false
set_option linter.unusedSectionVars false
set_option linter.unnecessarySimpa false
set_option linter.unusedSimpArgs false
set_option maxRecDepth 100000
set_option maxHeartbeats 4000000
namespace Go.Proofs.Ytmflfcbebeikcaa.Q
open Go.RowKit
variable [Amb]
mutual
/-- An expression and all its parts, the whole first. -/
def Ex.pre : Ex → List Ex
  | ⟨op, mon, name, n, kids, pl⟩ => ⟨op, mon, name, n, kids, pl⟩ :: Ex.pres kids
def Ex.pres : List Ex → List Ex
  | [] => []
  | x :: r => x.pre ++ Ex.pres r
end
theorem Ex.pre_eq (x : Ex) : x.pre = x :: Ex.pres x.kids := by cases x; rw [Ex.pre]
theorem Ex.pres_map : ∀ l : List Ex, Ex.pres l = l.flatMap Ex.pre
  | [] => by simp [Ex.pres]
  | x :: r => by rw [Ex.pres, Ex.pres_map r]; simp
theorem Ex.pres_snoc {l : List Ex} {k : Nat} (h : k < l.length) : Ex.pres (l.take (k + 1)) = Ex.pres (l.take k) ++ l[k].pre := by
  rw [Ex.pres_map, Ex.pres_map, take_snoc l k h, List.flatMap_append]; simp
theorem Ex.pre_pos (x : Ex) : 0 < x.pre.length := by rw [x.pre_eq]; simp
theorem Ex.pre_kid {x y : Ex} (h : y ∈ x.kids) : y.pre.length < x.pre.length := by
  rw [x.pre_eq, Ex.pres_map]
  obtain ⟨a, b, e⟩ := List.append_of_mem h
  rw [e]; simp [List.length_flatMap]; omega
theorem Ex.pre_sub {x y z : Ex} (h : y ∈ x.kids) (k : z ∈ y.pre) : z ∈ x.pre := by
  rw [x.pre_eq, Ex.pres_map]
  exact List.mem_cons_of_mem _ (List.mem_flatMap.2 ⟨y, h, k⟩)
theorem Ex.kids_len (x : Ex) : x.kids.length < x.pre.length := by
  rw [x.pre_eq, Ex.pres_map]
  have : ∀ l : List Ex, l.length ≤ (l.flatMap Ex.pre).length := by
    intro l
    induction l with
    | nil => simp
    | cons y r ih => have := y.pre_pos; rw [List.flatMap_cons, List.length_append, List.length_cons]; omega
  have := this x.kids
  rw [List.length_cons]; omega
/-- Expressions are handed on, one behind the other, until one says no. -/
def runY : List (List V) → List Ex → Bool × List (List V)
  | xs, [] => (true, xs)
  | xs, y :: ys => if Amb.go (xs ++ [[y.v]]) = true then runY (xs ++ [[y.v]]) ys else (false, xs ++ [[y.v]])
theorem runY_yes {y : Ex} {ys : List Ex} {xs : List (List V)} (h : Amb.go (xs ++ [[y.v]]) = true) : runY xs (y :: ys) = runY (xs ++ [[y.v]]) ys := by rw [runY, if_pos h]
theorem runY_no {y : Ex} {ys : List Ex} {xs : List (List V)} (h : ¬ Amb.go (xs ++ [[y.v]]) = true) : runY xs (y :: ys) = (false, xs ++ [[y.v]]) := by rw [runY, if_neg h]
theorem runY_append_yes : ∀ (l1 l2 : List Ex) (xs : List (List V)), (runY xs l1).1 = true → runY xs (l1 ++ l2) = runY (runY xs l1).2 l2
  | [], l2, xs, _ => rfl
  | y :: ys, l2, xs, k => by
    by_cases h : Amb.go (xs ++ [[y.v]]) = true
    · rw [runY_yes h] at k ⊢; rw [List.cons_append, runY_yes h]; exact runY_append_yes ys l2 _ k
    · rw [runY_no h] at k; cases k
theorem runY_append_no : ∀ (l1 l2 : List Ex) (xs : List (List V)), (runY xs l1).1 = false → runY xs (l1 ++ l2) = runY xs l1
  | [], l2, xs, k => by cases k
  | y :: ys, l2, xs, k => by
    by_cases h : Amb.go (xs ++ [[y.v]]) = true
    · rw [runY_yes h] at k ⊢; rw [List.cons_append, runY_yes h]; exact runY_append_no ys l2 _ k
    · rw [runY_no h, List.cons_append, runY_no h]
def Wents (xs : List (List V)) : Prop := ∀ m, 0 < m → m ≤ xs.length → Amb.go (xs.take m) = true
theorem Wents.snoc {xs : List (List V)} {a : List V} (h : Wents xs) (k : Amb.go (xs ++ [a]) = true) : Wents (xs ++ [a]) := fun m h0 hm => by
  by_cases e : m ≤ xs.length
  · rw [List.take_append_of_le_length e]; exact h m h0 e
  · have : m = (xs ++ [a]).length := by simp at hm ⊢; omega
    rw [this, List.take_length]; exact k
theorem runY_went : ∀ (l : List Ex) (xs : List (List V)), Wents xs → (runY xs l).1 = true → Wents (runY xs l).2
  | [], xs, h, _ => h
  | y :: ys, xs, h, k => by
    by_cases hg : Amb.go (xs ++ [[y.v]]) = true
    · rw [runY_yes hg] at k ⊢; exact runY_went ys _ (h.snoc hg) k
    · rw [runY_no hg] at k; cases k
abbrev walkH (xs : List (List V)) : List Ob := [.box [.yld 1], .hist xs, .box [.fn (.func 77) [] [.ptr 0 0, .ptr 2 0]]]
theorem walk_c (N : Nat) : ∀ (x : Ex) (xs : List (List V)), x.pre.length ≤ N → x.pre.length < 1073741824 → Wents xs → (∀ zs y, y ∈ x.pre → Amb.ok Try.prog (zs ++ [[y.v]])) →
    PFun Try.prog 77 [x.v, .ptr 0 0, .ptr 2 0] (walkH xs) (.d (.bool (runY xs x.pre).1)) (walkH (runY xs x.pre).2) := by
  induction N with
  | zero => intro x xs h; have := x.pre_pos; omega
  | succ N ih =>
    intro x xs hN hB hw hok
    have hkl := x.kids_len
    refine fn_sem pok 23 3 Try.func77 (by kernel_rfl) rfl rfl rfl rfl ?_
    refine SWp.go pok (by kernel_rfl) ?_
    refine ⟨⟨hok xs x (by rw [x.pre_eq]; exact List.mem_cons_self), hw⟩, brP_split (fun h => ?_) (fun h => ?_)⟩
    · have hw1 := hw.snoc h
      have hr0 : runY xs x.pre = runY (xs ++ [[x.v]]) (Ex.pres x.kids) := by rw [x.pre_eq, runY_yes h]
      refine SWp.loop (fun k : Nat => k ≤ x.kids.length ∧ (runY (xs ++ [[x.v]]) (Ex.pres (x.kids.take k))).1 = true)
        (fun k => ([(1, .ptr 0 0), (2, .ptr 2 0), (12, .d (.sl (x.kids.map Ex.e))), (13, iv (x.kids.map Ex.e).length), (14, iv k)], walkH (runY (xs ++ [[x.v]]) (Ex.pres (x.kids.take k))).2))
        (fun k => x.kids.length - k) 0 ⟨Nat.zero_le _, by simp [Ex.pres, runY]⟩ (.inr ⟨[0, 1, 2], ⟨rfl, rfl⟩, rfl, rfl, rfl, rfl, rfl, rfl, trivial⟩) (fun k hk => ?_)
      obtain ⟨hj, hk⟩ := hk
      refine SWp.go pok (by kernel_rfl) ?_
      refine brP_split (fun h2 => ?_) (fun h2 => ?_)
      · have hlt : k < x.kids.length := by simpa using h2
        have hm := List.getElem_mem hlt
        have hsn := Ex.pres_snoc hlt
        have hlk := Ex.pre_kid hm
        have hap := runY_append_yes (Ex.pres (x.kids.take k)) x.kids[k].pre (xs ++ [[x.v]]) hk
        rw [← hsn] at hap
        refine PIdx.ex hlt ?_
        refine PFun.call (ih x.kids[k] (runY (xs ++ [[x.v]]) (Ex.pres (x.kids.take k))).2 (by omega) (by omega) (runY_went _ _ hw1 hk) (fun zs y hy => hok zs y (Ex.pre_sub hm hy))) ?_
        rw [← hap]
        refine brP_split (fun h3 => ?_) (fun h3 => ?_)
        · have h3 : (runY (xs ++ [[x.v]]) (Ex.pres (x.kids.take (k + 1)))).1 = false := by simpa using h3
          have hfin : runY xs x.pre = runY (xs ++ [[x.v]]) (Ex.pres (x.kids.take (k + 1))) := by
            rw [hr0]
            have e1 : x.kids = x.kids.take (k + 1) ++ x.kids.drop (k + 1) := (List.take_append_drop _ _).symm
            have e2 : Ex.pres x.kids = Ex.pres (x.kids.take (k + 1)) ++ Ex.pres (x.kids.drop (k + 1)) := by
              rw [Ex.pres_map, Ex.pres_map, Ex.pres_map, ← List.flatMap_append, ← e1]
            rw [e2, runY_append_no _ _ _ h3]
          exact ⟨by rw [hfin, h3], by rw [hfin]⟩
        · exact ⟨k + 1, ⟨hlt, by simpa using h3⟩, by omega, .inr ⟨[0, 1, 2], ⟨rfl, rfl⟩, rfl, rfl, rfl, rfl, rfl, sint (wrap_nat k (by omega)), trivial⟩⟩
      · have hk' : x.kids.take k = x.kids := List.take_of_length_le (by simp at h2; omega)
        rw [hk'] at hk ⊢
        exact ⟨by rw [hr0, hk], by rw [hr0]⟩
    · have hr0 : runY xs x.pre = (false, xs ++ [[x.v]]) := by rw [x.pre_eq, runY_no (fun e => absurd (e.symm.trans h) (by simp))]
      exact ⟨by rw [hr0], by rw [hr0]; rfl⟩
end Go.Proofs.Ytmflfcbebeikcaa.Q

namespace Go.Proofs.Ytmflfcbebeikcaa.Q
open Go.RowKit
variable [Amb]
def isName (s : Str) : Bool := !(s == []) && decide (s.length ≤ 32) && (classS ((s.headD 0).toNat : Int) == 3) && !isWord s && (spanF inNameS 0 s == s.length)
theorem lexName_c (s : Str) (hs : s.length < 1073741824) : PFun Try.prog 79 [sv' s] [] (.d (.bool (isName s))) [] := by
  refine fn_sem pok 25 0 Try.func79 (by kernel_rfl) rfl rfl rfl rfl ?_
  refine SWp.go pok (by kernel_rfl) ?_
  refine brP_split (fun h => ?_) (fun h => ?_)
  · exact fin1 (dbool (by simp only [isName, h]; rfl))
  · have hne : s ≠ [] := by simpa using h
    refine brP_split (fun h1 => ?_) (fun h1 => ?_)
    · have : ¬ s.length ≤ 32 := by simp at h1; omega
      exact fin1 (dbool (by simp [isName, this]))
    · have h32 : s.length ≤ 32 := by simp at h1; omega
      have hh : s[0]? = some (s.headD 0) := by cases s with | nil => exact absurd rfl hne | cons b r => rfl
      refine PIdx.at hh ?_
      refine PFun.call (classOf_c _) ?_
      refine brP_split (fun h2 => ?_) (fun h2 => ?_)
      · have h2 : (classS ((s.headD 0).toNat : Int) == 3) = false := by simpa using h2
        exact fin1 (dbool (by simp only [isName, h2]; simp))
      · have h2 : (classS ((s.headD 0).toNat : Int) == 3) = true := by simpa using h2
        refine PFun.call (word_c s) ?_
        refine brP_split (fun h3 => ?_) (fun h3 => ?_)
        · exact fin1 (dbool (by simp [isName, h3]))
        · refine PFun.call (span_c _ inNameS inName_c s 0 (Nat.zero_le _) hs) ?_
          refine brP_split (fun h4 => ?_) (fun h4 => ?_)
          · have e4 : (spanF inNameS 0 s == s.length) = true := by simp at h4 ⊢; omega
            exact fin1 (dbool (by simp only [isName, h2, h3, e4, decide_eq_true h32, beq_eq_false_iff_ne.2 hne]; rfl))
          · have e4 : (spanF inNameS 0 s == s.length) = false := by simp at h4 ⊢; omega
            exact fin1 (dbool (by simp only [isName, e4, Bool.and_false]))
end Go.Proofs.Ytmflfcbebeikcaa.Q

namespace Go.Proofs.Ytmflfcbebeikcaa.Q
open Go.RowKit
variable [Amb]
def partsL : List Int := [-1, 0, 0, 0, 0, 1, 1, 1, 2, 2, 2, 2, 2, 2, 2, 2, 2, 2]
/-- How many parts a kind of expressions has. -/
def partsS (op : Int) : Int := if op < 0 then -1 else if 18 ≤ op then -1 else partsL.getD op.toNat (-1)
theorem parts_c (op : Int) : PFun Try.prog 78 [iv op] [] (iv (partsS op)) [] := by
  refine fn_sem pok 14 0 Try.func78 (by kernel_rfl) rfl rfl rfl rfl ?_
  by_cases h0 : op < 0
  · refine SWp.go pok (by kernel_rfl) ?_
    refine brP_true (decide_eq_true h0) ?_
    exact fin1 (dint (by rw [partsS, if_pos h0]))
  by_cases h1 : 18 ≤ op
  · refine SWp.go pok (by kernel_rfl) ?_
    refine brP_false (decide_eq_false h0) ?_
    refine brP_true (decide_eq_true (by omega)) ?_
    exact fin1 (dint (by rw [partsS, if_neg h0, if_pos h1]))
  have : op = 0 ∨ op = 1 ∨ op = 2 ∨ op = 3 ∨ op = 4 ∨ op = 5 ∨ op = 6 ∨ op = 7 ∨ op = 8 ∨ op = 9 ∨ op = 10 ∨ op = 11 ∨ op = 12 ∨ op = 13 ∨ op = 14 ∨ op = 15 ∨ op = 16 ∨ op = 17 := by omega
  rcases this with rfl | rfl | rfl | rfl | rfl | rfl | rfl | rfl | rfl | rfl | rfl | rfl | rfl | rfl | rfl | rfl | rfl | rfl <;>
  · refine SWp.go pok (by kernel_rfl) ?_
    exact ⟨by decide, fin1 rfl⟩
/-- Whether an expression has its shape, its parts aside. -/
def isPartS (x : Ex) : Bool :=
  ((x.kids.length : Int) == partsS x.op) && (bif x.op == 4 then isName x.mon && isName x.name else (x.mon == []) && (x.name == [])) && (decide (x.n ≥ 0) && ((x.op == 1) || (x.op == 7) || (x.n == 0)))
theorem isPart_c (x : Ex) (hk : x.kids.length < 1073741824) (hm : x.mon.length < 1073741824) (hn : x.name.length < 1073741824) : PFun Try.prog 46 [x.v] [] (.d (.bool (isPartS x))) [] := by
  refine fn_sem pok 62 0 Try.func46 (by kernel_rfl) rfl rfl rfl rfl ?_
  refine SWp.go pok (by kernel_rfl) ?_
  repeat' first
    | refine brP_split (fun h => ?_) (fun h => ?_)
    | refine PFun.call (lexName_c x.mon hm) ?_
    | refine PFun.call (lexName_c x.name hn) ?_
    | refine ⟨_, _, parts_c x.op, ?_⟩
  all_goals
    refine fin1 (dbool ?_)
    unfold isPartS
    simp_all
    try omega
end Go.Proofs.Ytmflfcbebeikcaa.Q

namespace Go.Proofs.Ytmflfcbebeikcaa.Q
open Go.RowKit
section
variable [Amb]
theorem all1_c (x : Ex) (hB : x.pre.length < 1073741824) (hok : ∀ zs y, y ∈ x.pre → Amb.ok Try.prog (zs ++ [[y.v]])) :
    PFun Try.prog 76 [.yld 1, .ptr 0 0] [.box x.cells, .hist []] (.tup []) [.box x.cells, .hist (runY [] x.pre).2] := by
  refine fn_sem pok 8 2 Try.func76 (by kernel_rfl) rfl rfl rfl rfl ?_
  refine SWp.go pok (by kernel_rfl) ?_
  refine PFun.call (walk_c _ x [] (Nat.le_refl _) hB (fun m h0 hm => by simp at hm; omega) hok) ?_
  exact ⟨rfl, rfl⟩
theorem all_c (x : Ex) : PFun Try.prog 45 [x.v] [] (.fn (.func 76) [] [.ptr 0 0]) [.box x.cells] := by
  refine fn_sem pok 4 0 Try.func45 (by kernel_rfl) rfl rfl rfl rfl ?_
  refine SWp.go pok (by kernel_rfl) ?_
  exact ⟨rfl, rfl⟩
end
/-! ### ranges over all parts -/
theorem runY_spec [Amb] (p : Ex → Bool) : ∀ (l : List Ex) (xs : List (List V)), (∀ zs y, y ∈ l → Amb.go (zs ++ [[y.v]]) = p y) →
    (l.all p = true → runY xs l = (true, xs ++ l.map fun y => [y.v])) ∧ (l.all p = false → ∃ zs y, y ∈ l ∧ p y = false ∧ runY xs l = (false, zs ++ [[y.v]]))
  | [], xs, _ => ⟨fun _ => by simp [runY], fun h => by simp at h⟩
  | y :: l, xs, hp => by
    have hg := hp xs y List.mem_cons_self
    have ih := runY_spec p l (xs ++ [[y.v]]) (fun zs z hz => hp zs z (List.mem_cons_of_mem _ hz))
    cases hy : p y with
    | true =>
      rw [hy] at hg
      rw [runY_yes hg]
      refine ⟨fun h => ?_, fun h => ?_⟩
      · rw [ih.1 (by simpa [hy] using h)]; simp
      · obtain ⟨zs, z, h1, h2⟩ := ih.2 (by simpa [hy] using h)
        exact ⟨zs, z, List.mem_cons_of_mem _ h1, h2⟩
    | false =>
      rw [hy] at hg
      rw [runY_no (by rw [hg]; simp)]
      exact ⟨fun h => by simp [hy] at h, fun _ => ⟨xs, y, List.mem_cons_self, hy, rfl⟩⟩
/-- The last that was handed on is not as it must be. -/
def BadLast (p : Ex → Bool) (xs : List (List V)) : Prop := ∃ zs y, xs = zs ++ [[Ex.v y]] ∧ p y = false
noncomputable def lastOr {α : Type} (p : Ex → Bool) (good bad : α) (xs : List (List V)) : α := @ite _ (BadLast p xs) (Classical.propDecidable _) bad good
theorem lastOr_snoc {α : Type} {p : Ex → Bool} (hp : ∀ y z : Ex, y.v = z.v → p y = p z) (good bad : α) (zs : List (List V)) (y : Ex) : lastOr p good bad (zs ++ [[y.v]]) = bif p y then good else bad := by
  unfold lastOr
  cases hy : p y with
  | true =>
    rw [if_neg]; rfl
    rintro ⟨zs', y', e, h⟩
    have e2 := (List.append_inj' e rfl).2
    injection e2 with e2; injection e2 with e2
    rw [hp y y' e2] at hy
    rw [hy] at h; cases h
  | false =>
    rw [if_pos ⟨zs, y, rfl, hy⟩]; rfl
theorem lastOr_nil {α : Type} {p : Ex → Bool} (good bad : α) : lastOr p good bad [] = good := by
  unfold lastOr
  rw [if_neg]
  rintro ⟨zs, y, e, _⟩
  have := congrArg List.length e
  simp at this
theorem lastOr_map {α β : Type} (f : α → β) {p : Ex → Bool} (good bad : α) (xs : List (List V)) : f (lastOr p good bad xs) = lastOr p (f good) (f bad) xs := by
  unfold lastOr
  by_cases h : BadLast p xs
  · rw [if_pos h, if_pos h]
  · rw [if_neg h, if_neg h]
theorem lastOr_cases {α : Type} (p : Ex → Bool) (good bad : α) (xs : List (List V)) : (lastOr p good bad xs = good ∧ ∀ {β : Type} (a b : β), lastOr p a b xs = a) ∨ (lastOr p good bad xs = bad ∧ ∀ {β : Type} (a b : β), lastOr p a b xs = b) := by
  by_cases h : BadLast p xs
  · exact .inr ⟨by unfold lastOr; rw [if_pos h], fun a b => by unfold lastOr; rw [if_pos h]⟩
  · exact .inl ⟨by unfold lastOr; rw [if_neg h], fun a b => by unfold lastOr; rw [if_neg h]⟩
/-- An expression that fits into memory. -/
def Ex.fits (x : Ex) : Prop := x.pre.length < 1073741824 ∧ ∀ y ∈ x.pre, y.kids.length < 1073741824 ∧ y.mon.length < 1073741824 ∧ y.name.length < 1073741824
theorem isPartS_v (y z : Ex) (h : y.v = z.v) : isPartS y = isPartS z := by
  unfold Ex.v at h
  simp only [V.agg.injEq, List.cons.injEq, V.d.injEq, D.int.injEq, D.str.injEq, D.sl.injEq, true_and, and_true] at h
  obtain ⟨h1, h2, h3, h4, h5, h6⟩ := h
  have h5 := congrArg List.length h5
  simp at h5
  unfold isPartS
  rw [h1, h2, h3, h4, h5]
/-- Whether an expression has its shape: 0; else 20. -/
def checkS (x : Ex) : Int := bif x.pre.all isPartS then 0 else 20
theorem checkExpr_c [Amb] (x : Ex) (hx : x.fits) : PFun Try.prog 22 [x.v] [] (iv (checkS x)) [] := by
  refine fn_sem pok 10 0 Try.func22 (by kernel_rfl) rfl rfl rfl rfl ?_
  refine SWp.go pok (by kernel_rfl) ?_
  refine PFun.call (all_c x) ?_
  refine SWp.range 76 [.ptr 2 0] rfl rfl (by decide) (lastOr isPartS .normal .ret) (lastOr_nil _ _) (fun xs => ∃ zs y, y ∈ x.pre ∧ xs = zs ++ [[y.v]])
    (fun xs a ⟨zs, y, _, e⟩ => by have := (List.append_inj' e rfl).2; injection this with this; rw [this]; rfl)
    (lastOr isPartS [.box x.cells, .box [iv 0], .dead] [.box x.cells, .box [iv 20], .dead]) (fun xs => by rw [lastOr_map List.length]; rcases lastOr_cases isPartS 3 3 xs with h | h <;> exact h.1)
    (fun xs => lastOr isPartS 0 20 xs = checkS x) (fun l xs a hok hfin => ?_) ?_ (fun xs hz => ?_)
  · obtain ⟨zs, y, hy, e⟩ := hok
    obtain ⟨e1, e2⟩ := List.append_inj' e rfl
    injection e2 with e2
    subst e1; subst e2
    have hf := hx.2 y hy
    have hst : ∀ {β : Type} (a b : β), lastOr isPartS a b xs = a := by
      rcases lastOr_cases isPartS PX.normal PX.ret xs with h | h
      · exact h.2
      · rw [h.1] at hfin; cases hfin
    unfold roundQ
    rw [hst, lastOr_snoc isPartS_v, lastOr_snoc isPartS_v]
    refine SWp.go pok (by kernel_rfl) ?_
    refine SWp.go pok (by kernel_rfl) ?_
    refine PFun.call (isPart_c y hf.1 hf.2.1 hf.2.2) ?_
    refine brP_split (fun h => ?_) (fun h => ?_)
    · have h : isPartS y = false := by simpa using h
      exact ⟨by rw [h]; rfl, .inr ⟨[0, 1, 2], ⟨rfl, rfl⟩, by rw [h]; rfl, trivial⟩⟩
    · have h : isPartS y = true := by simpa using h
      exact ⟨by rw [h]; rfl, .inr ⟨[0, 1, 2], ⟨rfl, rfl⟩, by rw [h]; rfl, trivial⟩⟩
  · refine ⟨lastOr_nil _ _, rfl, fun A' _ _ hgo hok => ?_⟩
    refine PCalls.mono (@all1_c A' x hx.1 (fun zs y hy => by rw [hok]; exact ⟨rfl, zs, y, hy, rfl⟩)) ?_
    rintro r h' ⟨_, rfl⟩
    refine ⟨_, [.box x.cells], rfl, rfl, ?_⟩
    have sp := @runY_spec A' isPartS x.pre [] (fun zs y hy => by
      rw [hgo]
      show (lastOr isPartS PX.normal PX.ret (zs ++ [[y.v]])).goes = _
      rw [lastOr_snoc isPartS_v]; cases isPartS y <;> rfl)
    unfold checkS
    cases hall : x.pre.all isPartS with
    | true =>
      rw [sp.1 hall]
      show lastOr isPartS 0 20 ([] ++ x.pre.map fun y => [y.v]) = 0
      rcases List.eq_nil_or_concat x.pre with h | ⟨l, z, h⟩
      · rw [h]; exact lastOr_nil _ _
      · rw [h, List.concat_eq_append] at hall ⊢
        rw [List.map_append, ← List.append_assoc]
        rw [List.map_cons, List.map_nil, lastOr_snoc isPartS_v]
        have : isPartS z = true := by rw [List.all_append] at hall; simp at hall; exact hall.2
        rw [this]; rfl
    | false =>
      obtain ⟨zs, z, _, h2, h3⟩ := sp.2 hall
      rw [h3]
      show lastOr isPartS 0 20 (zs ++ [[z.v]]) = 20
      rw [lastOr_snoc isPartS_v, h2]; rfl
  · rcases lastOr_cases isPartS PX.normal PX.ret xs with h | h
    · rw [h.1, h.2]
      rw [h.2] at hz
      exact fin1 (dint hz)
    · rw [h.1, h.2]
      rw [h.2] at hz
      exact fin1 (dint hz)
end Go.Proofs.Ytmflfcbebeikcaa.Q

namespace Go.Proofs.Ytmflfcbebeikcaa.Q
open Go.RowKit
variable [Amb]
/-- What a kind of statements has: a monitor's name, a name, a number, an expression; how many blocks. -/
structure Fo where
  mon : Bool
  name : Bool
  num : Bool
  ex : Bool
  fewest : Int
  most : Int
def Fo.v (f : Fo) : V := .agg [.d (.bool f.mon), .d (.bool f.name), .d (.bool f.num), .d (.bool f.ex), iv f.fewest, iv f.most]
def fo0 : Fo := ⟨false, false, false, false, 0, 0⟩
def formL : List Fo := [fo0, fo0, ⟨true, true, false, true, 0, 0⟩, ⟨false, false, false, true, 1, 2⟩, ⟨false, false, false, true, 1, 1⟩, ⟨false, false, false, false, 1, 1⟩, ⟨false, false, false, false, 1, 8⟩, ⟨true, false, false, false, 1, 1⟩, ⟨true, true, false, false, 0, 0⟩, ⟨true, false, true, false, 0, 0⟩, ⟨true, false, false, false, 0, 0⟩, ⟨true, false, false, false, 0, 0⟩]
def isKind (k : Int) : Bool := decide (1 ≤ k) && decide (k ≤ 11)
def formS (k : Int) : Fo := if 1 ≤ k ∧ k ≤ 11 then formL.getD k.toNat fo0 else fo0
theorem formOf_c (k : Int) : PFun Try.prog 165 [iv k] [] (.tup [(formS k).v, .d (.bool (isKind k))]) [] := by
  refine fn_sem pok 35 0 Try.func165 (by kernel_rfl) rfl rfl rfl rfl ?_
  by_cases h0 : k < 1
  · have e1 : formS k = fo0 := by unfold formS; rw [if_neg (by omega)]
    have e2 : isKind k = false := by unfold isKind; simp; omega
    rw [e1, e2]
    refine SWp.go pok (by kernel_rfl) ?_
    refine brP_true (decide_eq_true h0) ?_
    exact ⟨rfl, rfl⟩
  by_cases h1 : 12 ≤ k
  · have e1 : formS k = fo0 := by unfold formS; rw [if_neg (by omega)]
    have e2 : isKind k = false := by unfold isKind; simp; omega
    rw [e1, e2]
    refine SWp.go pok (by kernel_rfl) ?_
    refine brP_false (decide_eq_false h0) ?_
    refine brP_true (decide_eq_true h1) ?_
    exact ⟨rfl, rfl⟩
  have : k = 1 ∨ k = 2 ∨ k = 3 ∨ k = 4 ∨ k = 5 ∨ k = 6 ∨ k = 7 ∨ k = 8 ∨ k = 9 ∨ k = 10 ∨ k = 11 := by omega
  rcases this with rfl | rfl | rfl | rfl | rfl | rfl | rfl | rfl | rfl | rfl | rfl
  all_goals
    refine SWp.go pok (by kernel_rfl) ?_
    exact ⟨by decide, ⟨rfl, rfl⟩⟩
def isNameW (s : Str) (wanted : Bool) : Bool := if wanted then isName s else s == []
theorem isNameW_c (s : Str) (w : Bool) (hs : s.length < 1073741824) : PFun Try.prog 166 [sv' s, .d (.bool w)] [] (.d (.bool (isNameW s w))) [] := by
  refine fn_sem pok 11 0 Try.func166 (by kernel_rfl) rfl rfl rfl rfl ?_
  refine SWp.go pok (by kernel_rfl) ?_
  cases w with
  | true =>
    refine PFun.call (lexName_c s hs) ?_
    exact fin1 rfl
  | false =>
    refine brP_split (fun h => ?_) (fun h => ?_)
    · exact fin1 (dbool h.symm)
    · exact fin1 (dbool h.symm)
def isNoneS (e : Ex) : Bool := (e.op == 0) && (e.mon == []) && (e.name == []) && (e.n == 0) && ((e.kids.length : Int) == 0)
theorem isNone_c (e : Ex) : PFun Try.prog 167 [e.v] [] (.d (.bool (isNoneS e))) [] := by
  refine fn_sem pok 27 0 Try.func167 (by kernel_rfl) rfl rfl rfl rfl ?_
  refine SWp.go pok (by kernel_rfl) ?_
  repeat' refine brP_split (fun h => ?_) (fun h => ?_)
  all_goals
    refine fin1 (dbool ?_)
    unfold isNoneS
    simp_all
end Go.Proofs.Ytmflfcbebeikcaa.Q

namespace Go.Proofs.Ytmflfcbebeikcaa.Q
open Go.RowKit
variable [Amb]
def idxF {α : Type} (p : α → Bool) : Nat → List α → Int
  | _, [] => -1
  | k, a :: r => if p a = true then k else idxF p (k + 1) r
theorem idxF_at {α : Type} (p : α → Bool) {l : List α} {k : Nat} (h : k < l.length) : idxF p k (l.drop k) = if p l[k] = true then (k : Int) else idxF p (k + 1) (l.drop (k + 1)) := by
  rw [List.drop_eq_getElem_cons h]; rfl
theorem idxF_any {α : Type} (p : α → Bool) : ∀ (l : List α) (k : Nat), decide (idxF p k l ≥ 0) = l.any p
  | [], k => by rw [idxF]; rfl
  | a :: r, k => by
    rw [idxF, List.any_cons]
    by_cases h : p a = true
    · rw [if_pos h, h]; simp
    · rw [if_neg h, idxF_any p r (k + 1)]
      rw [Bool.not_eq_true] at h
      rw [h]; rfl

theorem St.inRow {l : List (St)} {k : Nat} {K : List D → Prop} (h : k < l.length) (c : K [.int .i64 l[k].kind, .str l[k].mon, .str l[k].name, .int .i64 l[k].n, .int .i64 l[k].e.op, .str l[k].e.mon, .str l[k].e.name, .int .i64 l[k].e.n, .sl (l[k].e.kids.map Ex.e), .int .i64 l[k].e.pl, .sl (l[k].blocks.map blk), .int .i64 l[k].pl]) : PIdx (l.map St.c) (k : Int) K := PIdx.map (get_at h) (by
  have e : St.c l[k] = [.int .i64 l[k].kind, .str l[k].mon, .str l[k].name, .int .i64 l[k].n, .int .i64 l[k].e.op, .str l[k].e.mon, .str l[k].e.name, .int .i64 l[k].e.n, .sl (l[k].e.kids.map Ex.e), .int .i64 l[k].e.pl, .sl (l[k].blocks.map blk), .int .i64 l[k].pl] := by rw [St.c_eq, Ex.e_row]; rfl
  rw [e]; exact c)
theorem idxOfSt_c (g : FuncId) (p : St → Bool) (l : List St) (h : ∀ a ∈ l, PFun Try.prog g [a.v] [] (.d (.bool (p a))) []) (hl : l.length < 1073741824) :
    PFun Try.prog 164 [.d (.sl (l.map St.c)), .fn (.func g) [] []] [] (iv (idxF p 0 l)) [] := by
  refine fn_sem pok 19 0 Try.func164 (by kernel_rfl) rfl rfl rfl rfl ?_
  refine SWp.go pok (by kernel_rfl) ?_
  refine SWp.loop (fun k : Nat => k ≤ l.length ∧ idxF p k (l.drop k) = idxF p 0 l) (fun k => ([(0, .d (.sl (l.map St.c))), (1, .fn (.func g) [] []), (7, iv (l.map St.c).length), (8, iv k)], [])) (fun k => l.length - k) 0 ⟨Nat.zero_le _, rfl⟩ (Le.same ⟨rfl, rfl, rfl, rfl, trivial⟩) (fun k hk => ?_)
  obtain ⟨hj, hk⟩ := hk
  refine SWp.go pok (by kernel_rfl) ?_
  refine brP_split (fun h2 => ?_) (fun h2 => ?_)
  · have hlt : k < l.length := by simpa using h2
    have hat := idxF_at p hlt
    refine St.inRow hlt ?_
    refine PFun.call (h l[k] (List.getElem_mem hlt)) ?_
    refine brP_split (fun h3 => ?_) (fun h3 => ?_)
    · exact fin1 (dint (by rw [← hk, hat, if_pos h3]))
    · exact ⟨k + 1, ⟨hlt, by rw [← hk, hat, if_neg (by rw [h3]; simp)]⟩, by omega, Le.same ⟨rfl, rfl, rfl, sint (wrap_nat k (by omega)), trivial⟩⟩
  · have hk' : k = l.length := by simp at h2; omega
    exact fin1 (dint (by rw [← hk, List.drop_of_length_le (by omega)]; rfl))
theorem anySt_c (g : FuncId) (p : St → Bool) (l : List St) (h : ∀ a ∈ l, PFun Try.prog g [a.v] [] (.d (.bool (p a))) []) (hl : l.length < 1073741824) :
    PFun Try.prog 147 [.d (.sl (l.map St.c)), .fn (.func g) [] []] [] (.d (.bool (l.any p))) [] := by
  refine fn_sem pok 9 0 Try.func147 (by kernel_rfl) rfl rfl rfl rfl ?_
  refine SWp.go pok (by kernel_rfl) ?_
  refine PFun.call (idxOfSt_c g p l h hl) ?_
  rw [← idxF_any p l 0]
  refine brP_split (fun h3 => ?_) (fun h3 => ?_)
  · exact fin1 (dbool h3.symm)
  · exact fin1 (dbool h3.symm)
theorem Vr.inRow {l : List (Vr)} {k : Nat} {K : List D → Prop} (h : k < l.length) (c : K [.str l[k].name, .int .i64 l[k].type, .int .i64 l[k].lo, .int .i64 l[k].hi, .int .i64 l[k].init, .int .i64 l[k].pl]) : PIdx (l.map Vr.c) (k : Int) K := PIdx.map (get_at h) (by
  have e : Vr.c l[k] = [.str l[k].name, .int .i64 l[k].type, .int .i64 l[k].lo, .int .i64 l[k].hi, .int .i64 l[k].init, .int .i64 l[k].pl] := rfl
  rw [e]; exact c)
theorem idxOfVr_c (g : FuncId) (p : Vr → Bool) (l : List Vr) (h : ∀ a ∈ l, PFun Try.prog g [a.v] [] (.d (.bool (p a))) []) (hl : l.length < 1073741824) :
    PFun Try.prog 150 [.d (.sl (l.map Vr.c)), .fn (.func g) [] []] [] (iv (idxF p 0 l)) [] := by
  refine fn_sem pok 19 0 Try.func150 (by kernel_rfl) rfl rfl rfl rfl ?_
  refine SWp.go pok (by kernel_rfl) ?_
  refine SWp.loop (fun k : Nat => k ≤ l.length ∧ idxF p k (l.drop k) = idxF p 0 l) (fun k => ([(0, .d (.sl (l.map Vr.c))), (1, .fn (.func g) [] []), (7, iv (l.map Vr.c).length), (8, iv k)], [])) (fun k => l.length - k) 0 ⟨Nat.zero_le _, rfl⟩ (Le.same ⟨rfl, rfl, rfl, rfl, trivial⟩) (fun k hk => ?_)
  obtain ⟨hj, hk⟩ := hk
  refine SWp.go pok (by kernel_rfl) ?_
  refine brP_split (fun h2 => ?_) (fun h2 => ?_)
  · have hlt : k < l.length := by simpa using h2
    have hat := idxF_at p hlt
    refine Vr.inRow hlt ?_
    refine PFun.call (h l[k] (List.getElem_mem hlt)) ?_
    refine brP_split (fun h3 => ?_) (fun h3 => ?_)
    · exact fin1 (dint (by rw [← hk, hat, if_pos h3]))
    · exact ⟨k + 1, ⟨hlt, by rw [← hk, hat, if_neg (by rw [h3]; simp)]⟩, by omega, Le.same ⟨rfl, rfl, rfl, sint (wrap_nat k (by omega)), trivial⟩⟩
  · have hk' : k = l.length := by simp at h2; omega
    exact fin1 (dint (by rw [← hk, List.drop_of_length_le (by omega)]; rfl))
theorem anyVr_c (g : FuncId) (p : Vr → Bool) (l : List Vr) (h : ∀ a ∈ l, PFun Try.prog g [a.v] [] (.d (.bool (p a))) []) (hl : l.length < 1073741824) :
    PFun Try.prog 121 [.d (.sl (l.map Vr.c)), .fn (.func g) [] []] [] (.d (.bool (l.any p))) [] := by
  refine fn_sem pok 9 0 Try.func121 (by kernel_rfl) rfl rfl rfl rfl ?_
  refine SWp.go pok (by kernel_rfl) ?_
  refine PFun.call (idxOfVr_c g p l h hl) ?_
  rw [← idxF_any p l 0]
  refine brP_split (fun h3 => ?_) (fun h3 => ?_)
  · exact fin1 (dbool h3.symm)
  · exact fin1 (dbool h3.symm)
theorem Mt.inRow {l : List (Mt)} {k : Nat} {K : List D → Prop} (h : k < l.length) (c : K [.str l[k].name, .sl (l[k].body.map St.c), .int .i64 l[k].pl]) : PIdx (l.map Mt.c) (k : Int) K := PIdx.map (get_at h) (by
  have e : Mt.c l[k] = [.str l[k].name, .sl (l[k].body.map St.c), .int .i64 l[k].pl] := rfl
  rw [e]; exact c)
theorem idxOfMt_c (g : FuncId) (p : Mt → Bool) (l : List Mt) (h : ∀ a ∈ l, PFun Try.prog g [a.v] [] (.d (.bool (p a))) []) (hl : l.length < 1073741824) :
    PFun Try.prog 151 [.d (.sl (l.map Mt.c)), .fn (.func g) [] []] [] (iv (idxF p 0 l)) [] := by
  refine fn_sem pok 19 0 Try.func151 (by kernel_rfl) rfl rfl rfl rfl ?_
  refine SWp.go pok (by kernel_rfl) ?_
  refine SWp.loop (fun k : Nat => k ≤ l.length ∧ idxF p k (l.drop k) = idxF p 0 l) (fun k => ([(0, .d (.sl (l.map Mt.c))), (1, .fn (.func g) [] []), (7, iv (l.map Mt.c).length), (8, iv k)], [])) (fun k => l.length - k) 0 ⟨Nat.zero_le _, rfl⟩ (Le.same ⟨rfl, rfl, rfl, rfl, trivial⟩) (fun k hk => ?_)
  obtain ⟨hj, hk⟩ := hk
  refine SWp.go pok (by kernel_rfl) ?_
  refine brP_split (fun h2 => ?_) (fun h2 => ?_)
  · have hlt : k < l.length := by simpa using h2
    have hat := idxF_at p hlt
    refine Mt.inRow hlt ?_
    refine PFun.call (h l[k] (List.getElem_mem hlt)) ?_
    refine brP_split (fun h3 => ?_) (fun h3 => ?_)
    · exact fin1 (dint (by rw [← hk, hat, if_pos h3]))
    · exact ⟨k + 1, ⟨hlt, by rw [← hk, hat, if_neg (by rw [h3]; simp)]⟩, by omega, Le.same ⟨rfl, rfl, rfl, sint (wrap_nat k (by omega)), trivial⟩⟩
  · have hk' : k = l.length := by simp at h2; omega
    exact fin1 (dint (by rw [← hk, List.drop_of_length_le (by omega)]; rfl))
theorem anyMt_c (g : FuncId) (p : Mt → Bool) (l : List Mt) (h : ∀ a ∈ l, PFun Try.prog g [a.v] [] (.d (.bool (p a))) []) (hl : l.length < 1073741824) :
    PFun Try.prog 124 [.d (.sl (l.map Mt.c)), .fn (.func g) [] []] [] (.d (.bool (l.any p))) [] := by
  refine fn_sem pok 9 0 Try.func124 (by kernel_rfl) rfl rfl rfl rfl ?_
  refine SWp.go pok (by kernel_rfl) ?_
  refine PFun.call (idxOfMt_c g p l h hl) ?_
  rw [← idxF_any p l 0]
  refine brP_split (fun h3 => ?_) (fun h3 => ?_)
  · exact fin1 (dbool h3.symm)
  · exact fin1 (dbool h3.symm)
theorem Mo.inRow {l : List (Mo)} {k : Nat} {K : List D → Prop} (h : k < l.length) (c : K [.str l[k].name, .sl (l[k].vars.map Vr.c), .sl (l[k].methods.map Mt.c), .int .i64 l[k].pl]) : PIdx (l.map Mo.c) (k : Int) K := PIdx.map (get_at h) (by
  have e : Mo.c l[k] = [.str l[k].name, .sl (l[k].vars.map Vr.c), .sl (l[k].methods.map Mt.c), .int .i64 l[k].pl] := rfl
  rw [e]; exact c)
theorem Ro.inRow {l : List (Ro)} {k : Nat} {K : List D → Prop} (h : k < l.length) (c : K [.str l[k].name, .bool l[k].star, .int .i64 l[k].count, .sl (l[k].body.map St.c), .int .i64 l[k].pl]) : PIdx (l.map Ro.c) (k : Int) K := PIdx.map (get_at h) (by
  have e : Ro.c l[k] = [.str l[k].name, .bool l[k].star, .int .i64 l[k].count, .sl (l[k].body.map St.c), .int .i64 l[k].pl] := rfl
  rw [e]; exact c)
theorem Bl.inRow {l : List (List St)} {k : Nat} {K : List D → Prop} (h : k < l.length) (c : K [.sl (l[k].map St.c)]) : PIdx (l.map blk) (k : Int) K := PIdx.map (get_at h) (by
  have e : blk l[k] = [.sl (l[k].map St.c)] := rfl
  rw [e]; exact c)

end Go.Proofs.Ytmflfcbebeikcaa.Q

namespace Go.Proofs.Ytmflfcbebeikcaa.Q
open Go.RowKit
variable [Amb]
def headOk (kind : Int) (mon name : Str) (n : Int) (e : Ex) (len : Nat) : Bool :=
  if isKind kind = false then false else if (len : Int) < (formS kind).fewest then false else if (len : Int) > (formS kind).most then false else
  if isNameW mon (formS kind).mon = false then false else if isNameW name (formS kind).name = false then false else if n < 0 then false else
  if (formS kind).num = false ∧ n ≠ 0 then false else if (formS kind).ex = true then (checkS e == 0) else isNoneS e
mutual
def St.ok : St → Bool
  | ⟨kind, mon, name, n, e, blocks, _⟩ => headOk kind mon name n e blocks.length && St.okB blocks
def St.okL : List St → Bool
  | [] => true
  | a :: r => a.ok && St.okL r
def St.okB : List (List St) → Bool
  | [] => true
  | b :: r => St.okL b && St.okB r
end
theorem St.okL_all : ∀ l : List St, St.okL l = l.all St.ok
  | [] => by rw [St.okL]; rfl
  | a :: r => by rw [St.okL, St.okL_all r]; rfl
theorem St.okB_all : ∀ l : List (List St), St.okB l = l.all St.okL
  | [] => by rw [St.okB]; rfl
  | a :: r => by rw [St.okB, St.okB_all r]; rfl
/-- What a statement holds is not too much for a machine. -/
inductive SF : St → Prop
  | mk {kind : Int} {mon name : Str} {n : Int} {e : Ex} {blocks : List (List St)} {pl : Int} (hm : mon.length < 1073741824) (hn : name.length < 1073741824) (he : e.fits) (hb : blocks.length < 1073741824) (hl : ∀ b ∈ blocks, b.length < 1073741824) (k : ∀ b ∈ blocks, ∀ y ∈ b, SF y) : SF ⟨kind, mon, name, n, e, blocks, pl⟩
theorem not_any {α : Type} (p : α → Bool) : ∀ l : List α, (!(l.any fun a => !p a)) = l.all p
  | [] => rfl
  | a :: r => by rw [List.any_cons, List.all_cons, ← not_any p r]; simp
theorem areStmts_of (l : List St) (hl : l.length < 1073741824) (h : ∀ y ∈ l, PFun Try.prog 149 [y.v] [] (.d (.bool y.ok)) []) : PFun Try.prog 120 [.d (.sl (l.map St.c))] [] (.d (.bool (St.okL l))) [] := by
  have hg : ∀ y ∈ l, PFun Try.prog 148 [y.v] [] (.d (.bool (!y.ok))) [] := fun y hy => by
    refine fn_sem pok 6 0 Try.func148 (by kernel_rfl) rfl rfl rfl rfl ?_
    refine SWp.go pok (by kernel_rfl) ?_
    refine PFun.call (h y hy) ?_
    refine brP_split (fun h3 => ?_) (fun h3 => ?_)
    · exact fin1 (dbool h3.symm)
    · exact fin1 (dbool h3.symm)
  rw [St.okL_all, ← not_any]
  refine fn_sem pok 6 0 Try.func120 (by kernel_rfl) rfl rfl rfl rfl ?_
  refine SWp.go pok (by kernel_rfl) ?_
  refine PFun.call (anySt_c _ (fun y => !y.ok) l hg hl) ?_
  refine brP_split (fun h3 => ?_) (fun h3 => ?_)
  · exact fin1 (dbool h3.symm)
  · exact fin1 (dbool h3.symm)
theorem isStmt_c {s : St} (hs : SF s) : PFun Try.prog 149 [s.v] [] (.d (.bool s.ok)) [] := by
  induction hs with
  | @mk kind mon name n e blocks pl hm hn he hb hl k ih =>
    rw [St.ok]
    refine fn_sem pok 95 0 Try.func149 (by kernel_rfl) rfl rfl rfl rfl ?_
    refine SWp.go pok (by kernel_rfl) ?_
    have c0 := formOf_c kind
    unfold headOk
    generalize formS kind = f at c0 ⊢
    obtain ⟨f1, f2, f3, f4, f5, f6⟩ := f
    cases hK : isKind kind with
    | false =>
      rw [hK] at c0
      refine PFun.call c0 ?_
      exact fin1 rfl
    | true =>
      rw [hK] at c0
      refine PFun.call c0 ?_
      rw [if_neg (by simp)]
      dsimp only
      refine brP_split (fun h => ?_) (fun h => ?_)
      · rw [if_pos (by simpa using h)]
        exact fin1 rfl
      rw [if_neg (by simpa using h)]
      refine brP_split (fun h => ?_) (fun h => ?_)
      · rw [if_pos (by simpa using h)]
        exact fin1 rfl
      rw [if_neg (by simpa using h)]
      refine ⟨by decide, ?_⟩
      refine PFun.call (isNameW_c mon f1 hm) ?_
      cases h1 : isNameW mon f1 with
      | false =>
        rw [if_pos rfl]
        exact fin1 rfl
      | true =>
      rw [if_neg (by simp)]
      refine ⟨by decide, ?_⟩
      refine PFun.call (isNameW_c name f2 hn) ?_
      cases h2 : isNameW name f2 with
      | false =>
        rw [if_pos rfl]
        exact fin1 rfl
      | true =>
      rw [if_neg (by simp)]
      refine brP_split (fun h => ?_) (fun h => ?_)
      · rw [if_pos (by simpa using h)]
        exact fin1 rfl
      rw [if_neg (by simpa using h)]
      refine ⟨by decide, ?_⟩
      have hex : ∀ {g : Bool}, (if g = true then (checkS e == 0) else isNoneS e) = (bif g then (checkS e == 0) else isNoneS e) := fun {g} => by cases g <;> rfl
      rw [hex]
      have hdrop : ∀ {j : Nat} (h : j < blocks.length), St.okB (blocks.drop j) = (St.okL blocks[j] && St.okB (blocks.drop (j + 1))) := fun {j} h => by rw [List.drop_eq_getElem_cons h, St.okB]
      have hare : ∀ b ∈ blocks, PFun Try.prog 120 [.d (.sl (b.map St.c))] [] (.d (.bool (St.okL b))) [] := fun b hb' => areStmts_of b (hl b hb') (ih b hb')
      cases f3 with
      | true =>
        rw [if_neg (by simp)]
        refine ⟨by decide, ?_⟩
        cases f4 with
        | true =>
          refine PFun.call (checkExpr_c e he) ?_
          refine brP_split (fun h7 => ?_) (fun h7 => ?_)
          · have h7 : (checkS e == 0) = false := by simpa using h7
            exact fin1 (dbool (by rw [h7]; rfl))
          have h7 : (checkS e == 0) = true := by simpa using h7
          rw [h7]
          refine ⟨by decide, ?_⟩
          refine SWp.loop (fun k : Nat => k ≤ blocks.length ∧ St.okB (blocks.drop k) = St.okB blocks) (fun k => ([(85, .d (.sl (blocks.map blk))), (86, iv blocks.length), (87, iv k)], [])) (fun k => blocks.length - k) 0 ⟨Nat.zero_le _, rfl⟩ (.inr ⟨[], ⟨rfl, rfl⟩, rfl, rfl, sint (by rw [List.length_map]), rfl, trivial⟩) (fun j hj => ?_)
          obtain ⟨hj, hk⟩ := hj
          refine SWp.go pok (by kernel_rfl) ?_
          refine brP_split (fun h2 => ?_) (fun h2 => ?_)
          · have hlt : j < blocks.length := by simpa using h2
            refine Bl.inRow hlt ?_
            refine PFun.call (hare blocks[j] (List.getElem_mem hlt)) ?_
            refine brP_split (fun h3 => ?_) (fun h3 => ?_)
            · have h3 : St.okL blocks[j] = false := by simpa using h3
              exact fin1 (dbool (by rw [← hk, hdrop hlt, h3]; rfl))
            · have h3 : St.okL blocks[j] = true := by simpa using h3
              exact ⟨j + 1, ⟨hlt, by rw [← hk, hdrop hlt, h3]; rfl⟩, by omega, Le.same ⟨rfl, rfl, sint (wrap_nat j (by omega)), trivial⟩⟩
          · have hj' : j = blocks.length := by simp at h2; omega
            subst hj'
            exact fin1 (dbool (by rw [← hk, List.drop_of_length_le (Nat.le_refl _), St.okB]; rfl))
        | false =>
          refine ⟨by decide, ?_⟩
          refine PFun.call (isNone_c e) ?_
          refine brP_split (fun h7 => ?_) (fun h7 => ?_)
          · have h7 : isNoneS e = false := by simpa using h7
            exact fin1 (dbool (by rw [h7]; rfl))
          have h7 : isNoneS e = true := by simpa using h7
          rw [h7]
          refine SWp.loop (fun k : Nat => k ≤ blocks.length ∧ St.okB (blocks.drop k) = St.okB blocks) (fun k => ([(85, .d (.sl (blocks.map blk))), (86, iv blocks.length), (87, iv k)], [])) (fun k => blocks.length - k) 0 ⟨Nat.zero_le _, rfl⟩ (.inr ⟨[], ⟨rfl, rfl⟩, rfl, rfl, sint (by rw [List.length_map]), rfl, trivial⟩) (fun j hj => ?_)
          obtain ⟨hj, hk⟩ := hj
          refine SWp.go pok (by kernel_rfl) ?_
          refine brP_split (fun h2 => ?_) (fun h2 => ?_)
          · have hlt : j < blocks.length := by simpa using h2
            refine Bl.inRow hlt ?_
            refine PFun.call (hare blocks[j] (List.getElem_mem hlt)) ?_
            refine brP_split (fun h3 => ?_) (fun h3 => ?_)
            · have h3 : St.okL blocks[j] = false := by simpa using h3
              exact fin1 (dbool (by rw [← hk, hdrop hlt, h3]; rfl))
            · have h3 : St.okL blocks[j] = true := by simpa using h3
              exact ⟨j + 1, ⟨hlt, by rw [← hk, hdrop hlt, h3]; rfl⟩, by omega, Le.same ⟨rfl, rfl, sint (wrap_nat j (by omega)), trivial⟩⟩
          · have hj' : j = blocks.length := by simp at h2; omega
            subst hj'
            exact fin1 (dbool (by rw [← hk, List.drop_of_length_le (Nat.le_refl _), St.okB]; rfl))
      | false =>
        refine brP_split (fun h => ?_) (fun h => ?_)
        · rw [if_pos ⟨rfl, by simpa using h⟩]
          exact fin1 rfl
        rw [if_neg (by simp at h; simp [h])]
        refine ⟨by decide, ?_⟩
        cases f4 with
        | true =>
          refine PFun.call (checkExpr_c e he) ?_
          refine brP_split (fun h7 => ?_) (fun h7 => ?_)
          · have h7 : (checkS e == 0) = false := by simpa using h7
            exact fin1 (dbool (by rw [h7]; rfl))
          have h7 : (checkS e == 0) = true := by simpa using h7
          rw [h7]
          refine ⟨by decide, ?_⟩
          refine SWp.loop (fun k : Nat => k ≤ blocks.length ∧ St.okB (blocks.drop k) = St.okB blocks) (fun k => ([(85, .d (.sl (blocks.map blk))), (86, iv blocks.length), (87, iv k)], [])) (fun k => blocks.length - k) 0 ⟨Nat.zero_le _, rfl⟩ (.inr ⟨[], ⟨rfl, rfl⟩, rfl, rfl, sint (by rw [List.length_map]), rfl, trivial⟩) (fun j hj => ?_)
          obtain ⟨hj, hk⟩ := hj
          refine SWp.go pok (by kernel_rfl) ?_
          refine brP_split (fun h2 => ?_) (fun h2 => ?_)
          · have hlt : j < blocks.length := by simpa using h2
            refine Bl.inRow hlt ?_
            refine PFun.call (hare blocks[j] (List.getElem_mem hlt)) ?_
            refine brP_split (fun h3 => ?_) (fun h3 => ?_)
            · have h3 : St.okL blocks[j] = false := by simpa using h3
              exact fin1 (dbool (by rw [← hk, hdrop hlt, h3]; rfl))
            · have h3 : St.okL blocks[j] = true := by simpa using h3
              exact ⟨j + 1, ⟨hlt, by rw [← hk, hdrop hlt, h3]; rfl⟩, by omega, Le.same ⟨rfl, rfl, sint (wrap_nat j (by omega)), trivial⟩⟩
          · have hj' : j = blocks.length := by simp at h2; omega
            subst hj'
            exact fin1 (dbool (by rw [← hk, List.drop_of_length_le (Nat.le_refl _), St.okB]; rfl))
        | false =>
          refine ⟨by decide, ?_⟩
          refine PFun.call (isNone_c e) ?_
          refine brP_split (fun h7 => ?_) (fun h7 => ?_)
          · have h7 : isNoneS e = false := by simpa using h7
            exact fin1 (dbool (by rw [h7]; rfl))
          have h7 : isNoneS e = true := by simpa using h7
          rw [h7]
          refine SWp.loop (fun k : Nat => k ≤ blocks.length ∧ St.okB (blocks.drop k) = St.okB blocks) (fun k => ([(85, .d (.sl (blocks.map blk))), (86, iv blocks.length), (87, iv k)], [])) (fun k => blocks.length - k) 0 ⟨Nat.zero_le _, rfl⟩ (.inr ⟨[], ⟨rfl, rfl⟩, rfl, rfl, sint (by rw [List.length_map]), rfl, trivial⟩) (fun j hj => ?_)
          obtain ⟨hj, hk⟩ := hj
          refine SWp.go pok (by kernel_rfl) ?_
          refine brP_split (fun h2 => ?_) (fun h2 => ?_)
          · have hlt : j < blocks.length := by simpa using h2
            refine Bl.inRow hlt ?_
            refine PFun.call (hare blocks[j] (List.getElem_mem hlt)) ?_
            refine brP_split (fun h3 => ?_) (fun h3 => ?_)
            · have h3 : St.okL blocks[j] = false := by simpa using h3
              exact fin1 (dbool (by rw [← hk, hdrop hlt, h3]; rfl))
            · have h3 : St.okL blocks[j] = true := by simpa using h3
              exact ⟨j + 1, ⟨hlt, by rw [← hk, hdrop hlt, h3]; rfl⟩, by omega, Le.same ⟨rfl, rfl, sint (wrap_nat j (by omega)), trivial⟩⟩
          · have hj' : j = blocks.length := by simp at h2; omega
            subst hj'
            exact fin1 (dbool (by rw [← hk, List.drop_of_length_le (Nat.le_refl _), St.okB]; rfl))
end Go.Proofs.Ytmflfcbebeikcaa.Q

namespace Go.Proofs.Ytmflfcbebeikcaa.Q
open Go.RowKit
variable [Amb]
def Vr.ok (v : Vr) : Bool :=
  isName v.name && (!(minI v.lo [v.hi, v.init] == -9223372036854775808)) &&
  (if v.type = 1 then ((v.lo == 0) && (v.hi == 0)) && ((v.init == 0) || (v.init == 1)) else if v.type = 2 then (v.lo == 0) && (v.hi == 0) else if v.type = 3 then decide (v.lo ≤ v.hi) else false)
theorem isVar_c (v : Vr) (hn : v.name.length < 1073741824) : PFun Try.prog 123 [v.v] [] (.d (.bool v.ok)) [] := by
  unfold Vr.ok
  generalize hmin : minI v.lo [v.hi, v.init] = z
  refine fn_sem pok 51 0 Try.func123 (by kernel_rfl) rfl rfl rfl rfl ?_
  refine SWp.go pok (by kernel_rfl) ?_
  refine PFun.call (lexName_c v.name hn) ?_
  cases h1 : isName v.name with
  | false => exact fin1 rfl
  | true =>
  refine brP_split (fun h2 => ?_) (fun h2 => ?_)
  · have h2 : (z == -9223372036854775808) = true := by rw [← hmin]; exact h2
    exact fin1 (dbool (by rw [h2]; rfl))
  have h2 : (z == -9223372036854775808) = false := by rw [← hmin]; exact h2
  rw [h2]
  repeat' refine brP_split (fun h => ?_) (fun h => ?_)
  all_goals
    refine fin1 (dbool ?_)
    simp_all
structure BF (l : List St) : Prop where
  len : l.length < 1073741824
  fit : ∀ y ∈ l, SF y
theorem areStmts_c {l : List St} (h : BF l) : PFun Try.prog 120 [.d (.sl (l.map St.c))] [] (.d (.bool (St.okL l))) [] := areStmts_of l h.len fun y hy => isStmt_c (h.fit y hy)
def Mt.ok (f : Mt) : Bool := isName f.name && St.okL f.body
def Mo.ok (m : Mo) : Bool := isName m.name && decide (m.vars.length ≤ 16) && decide (m.methods.length ≤ 16) && m.vars.all Vr.ok && m.methods.all Mt.ok
def Ro.ok (r : Ro) : Bool := isName r.name && decide (r.count ≥ 0) && (!(r.star && (r.count != 0))) && St.okL r.body
structure MtF (f : Mt) : Prop where
  name : f.name.length < 1073741824
  body : BF f.body
structure MoF (m : Mo) : Prop where
  name : m.name.length < 1073741824
  vlen : m.vars.length < 1073741824
  mlen : m.methods.length < 1073741824
  vars : ∀ v ∈ m.vars, v.name.length < 1073741824
  meths : ∀ f ∈ m.methods, MtF f
structure RoF (r : Ro) : Prop where
  name : r.name.length < 1073741824
  body : BF r.body
theorem badVar_c (v : Vr) (hn : v.name.length < 1073741824) : PFun Try.prog 122 [v.v] [] (.d (.bool (!v.ok))) [] := by
  refine fn_sem pok 6 0 Try.func122 (by kernel_rfl) rfl rfl rfl rfl ?_
  refine SWp.go pok (by kernel_rfl) ?_
  refine PFun.call (isVar_c v hn) ?_
  refine brP_split (fun h3 => ?_) (fun h3 => ?_)
  · exact fin1 (dbool h3.symm)
  · exact fin1 (dbool h3.symm)
theorem badMeth_c (f : Mt) (h : MtF f) : PFun Try.prog 119 [f.v] [] (.d (.bool (!f.ok))) [] := by
  unfold Mt.ok
  refine fn_sem pok 13 0 Try.func119 (by kernel_rfl) rfl rfl rfl rfl ?_
  refine SWp.go pok (by kernel_rfl) ?_
  refine PFun.call (lexName_c f.name h.name) ?_
  cases h1 : isName f.name with
  | false => exact fin1 rfl
  | true =>
    refine PFun.call (areStmts_c h.body) ?_
    refine brP_split (fun h3 => ?_) (fun h3 => ?_)
    · have h3 : St.okL f.body = false := by simpa using h3
      exact fin1 (dbool (by rw [h3]; rfl))
    · have h3 : St.okL f.body = true := by simpa using h3
      exact fin1 (dbool (by rw [h3]; rfl))
theorem isMonitor_c (m : Mo) (h : MoF m) : PFun Try.prog 89 [m.v] [] (.d (.bool m.ok)) [] := by
  unfold Mo.ok
  refine fn_sem pok 31 0 Try.func89 (by kernel_rfl) rfl rfl rfl rfl ?_
  refine SWp.go pok (by kernel_rfl) ?_
  refine PFun.call (lexName_c m.name h.name) ?_
  cases h1 : isName m.name with
  | false => exact fin1 rfl
  | true =>
  refine brP_split (fun h2 => ?_) (fun h2 => ?_)
  · have h2 : decide (m.vars.length ≤ 16) = false := by simp at h2 ⊢; omega
    exact fin1 (dbool (by rw [h2]; rfl))
  have h2 : decide (m.vars.length ≤ 16) = true := by simp at h2 ⊢; omega
  rw [h2]
  refine brP_split (fun h3 => ?_) (fun h3 => ?_)
  · have h3 : decide (m.methods.length ≤ 16) = false := by simp at h3 ⊢; omega
    exact fin1 (dbool (by rw [h3]; rfl))
  have h3 : decide (m.methods.length ≤ 16) = true := by simp at h3 ⊢; omega
  rw [h3, ← not_any Vr.ok, ← not_any Mt.ok]
  refine PFun.call (anyVr_c _ (fun v => !v.ok) m.vars (fun v hv => badVar_c v (h.vars v hv)) h.vlen) ?_
  refine brP_split (fun h4 => ?_) (fun h4 => ?_)
  · rw [h4]
    refine PFun.call (anyMt_c _ (fun f => !f.ok) m.methods (fun f hf => badMeth_c f (h.meths f hf)) h.mlen) ?_
    refine brP_split (fun h5 => ?_) (fun h5 => ?_)
    · exact fin1 (dbool (by rw [h5]; rfl))
    · exact fin1 (dbool (by rw [h5]; rfl))
  · exact fin1 (dbool (by rw [h4]; rfl))
theorem isRole_c (r : Ro) (h : RoF r) : PFun Try.prog 90 [r.v] [] (.d (.bool r.ok)) [] := by
  unfold Ro.ok
  refine fn_sem pok 26 0 Try.func90 (by kernel_rfl) rfl rfl rfl rfl ?_
  refine SWp.go pok (by kernel_rfl) ?_
  refine PFun.call (lexName_c r.name h.name) ?_
  cases h1 : isName r.name with
  | false => exact fin1 rfl
  | true =>
  by_cases h2 : decide (r.count ≥ 0) = true
  case neg =>
    rw [Bool.not_eq_true] at h2
    refine brP_false h2 ?_
    exact fin1 (dbool (by rw [h2]; rfl))
  refine brP_true h2 ?_
  rw [h2]
  cases hst : r.star with
  | false =>
    refine PFun.call (areStmts_c h.body) ?_
    exact fin1 rfl
  | true =>
    refine brP_split (fun h3 => ?_) (fun h3 => ?_)
    · exact fin1 (dbool (by rw [h3]; rfl))
    rw [h3]
    refine PFun.call (areStmts_c h.body) ?_
    exact fin1 rfl
def Pg.ok (p : Pg) : Bool := decide (p.mons.length ≤ 8) && decide (p.roles.length ≤ 8) && p.mons.all Mo.ok && p.roles.all Ro.ok
structure PgF (p : Pg) : Prop where
  mons : ∀ m ∈ p.mons, MoF m
  roles : ∀ r ∈ p.roles, RoF r
def checkP (p : Pg) : Int := if p.ok then 0 else 20
theorem check_c (p : Pg) (h : PgF p) : PFun Try.prog 50 [p.v] [] (iv (checkP p)) [] := by
  unfold checkP Pg.ok
  refine fn_sem pok 39 0 Try.func50 (by kernel_rfl) rfl rfl rfl rfl ?_
  refine SWp.go pok (by kernel_rfl) ?_
  refine brP_split (fun h2 => ?_) (fun h2 => ?_)
  · have h2 : decide (p.mons.length ≤ 8) = false := by simp at h2 ⊢; omega
    exact fin1 (dint (by rw [h2]; rfl))
  have hm : p.mons.length ≤ 8 := by simp at h2; omega
  rw [decide_eq_true hm]
  refine brP_split (fun h3 => ?_) (fun h3 => ?_)
  · have h3 : decide (p.roles.length ≤ 8) = false := by simp at h3 ⊢; omega
    exact fin1 (dint (by rw [h3]; rfl))
  have hr : p.roles.length ≤ 8 := by simp at h3; omega
  rw [decide_eq_true hr]
  refine SWp.loop (fun k : Nat => k ≤ p.mons.length ∧ (p.mons.drop k).all Mo.ok = p.mons.all Mo.ok) (fun k => ([(1, .ptr 0 0), (18, .d (.sl (p.mons.map Mo.c))), (19, iv p.mons.length), (20, iv k)], [.box [.d (.sl (p.mons.map Mo.c)), .d (.sl (p.roles.map Ro.c))]])) (fun k => p.mons.length - k) 0 ⟨Nat.zero_le _, rfl⟩ (Le.same ⟨rfl, rfl, sint (by rw [List.length_map]), rfl, trivial⟩) (fun k hk => ?_)
  obtain ⟨hj, hk⟩ := hk
  refine SWp.go pok (by kernel_rfl) ?_
  refine brP_split (fun h4 => ?_) (fun h4 => ?_)
  · have hlt : k < p.mons.length := by simpa using h4
    have hat : (p.mons.drop k).all Mo.ok = (p.mons[k].ok && (p.mons.drop (k + 1)).all Mo.ok) := by rw [List.drop_eq_getElem_cons hlt]; rfl
    refine Mo.inRow hlt ?_
    refine PFun.call (isMonitor_c p.mons[k] (h.mons _ (List.getElem_mem hlt))) ?_
    refine brP_split (fun h5 => ?_) (fun h5 => ?_)
    · have h5 : p.mons[k].ok = false := by simpa using h5
      exact fin1 (dint (by rw [← hk, hat, h5]; rfl))
    · have h5 : p.mons[k].ok = true := by simpa using h5
      exact ⟨k + 1, ⟨hlt, by rw [← hk, hat, h5]; rfl⟩, by omega, .inr ⟨[0], ⟨rfl, rfl⟩, rfl, rfl, rfl, rfl, sint (wrap_nat k (by omega)), trivial⟩⟩
  have hk' : k = p.mons.length := by simp at h4; omega
  subst hk'
  rw [List.drop_of_length_le (Nat.le_refl _)] at hk
  rw [← hk]
  refine SWp.loop (fun k : Nat => k ≤ p.roles.length ∧ (p.roles.drop k).all Ro.ok = p.roles.all Ro.ok) (fun k => ([(29, .d (.sl (p.roles.map Ro.c))), (30, iv p.roles.length), (31, iv k)], [])) (fun k => p.roles.length - k) 0 ⟨Nat.zero_le _, rfl⟩ (.inr ⟨[], ⟨rfl, rfl⟩, rfl, rfl, sint (by rw [List.length_map]), rfl, trivial⟩) (fun k hk2 => ?_)
  obtain ⟨hj, hk2⟩ := hk2
  refine SWp.go pok (by kernel_rfl) ?_
  refine brP_split (fun h4 => ?_) (fun h4 => ?_)
  · have hlt : k < p.roles.length := by simpa using h4
    have hat : (p.roles.drop k).all Ro.ok = (p.roles[k].ok && (p.roles.drop (k + 1)).all Ro.ok) := by rw [List.drop_eq_getElem_cons hlt]; rfl
    refine Ro.inRow hlt ?_
    refine PFun.call (isRole_c p.roles[k] (h.roles _ (List.getElem_mem hlt))) ?_
    refine brP_split (fun h5 => ?_) (fun h5 => ?_)
    · have h5 : p.roles[k].ok = false := by simpa using h5
      exact fin1 (dint (by rw [← hk2, hat, h5]; rfl))
    · have h5 : p.roles[k].ok = true := by simpa using h5
      exact ⟨k + 1, ⟨hlt, by rw [← hk2, hat, h5]; rfl⟩, by omega, .inr ⟨[], ⟨rfl, rfl⟩, rfl, rfl, rfl, sint (wrap_nat k (by omega)), trivial⟩⟩
  · have hk' : k = p.roles.length := by simp at h4; omega
    subst hk'
    rw [List.drop_of_length_le (Nat.le_refl _)] at hk2
    rw [← hk2]
    exact fin1 rfl
end Go.Proofs.Ytmflfcbebeikcaa.Q

namespace Go.Proofs.Ytmflfcbebeikcaa.Q
open Go.RowKit
variable [Amb]
/-- A number that is left. -/
def Left (n : Int) (X : Int → Prop) : V → List Ob → Prop := fun r h' => ∃ z : Int, r = iv z ∧ h' = [] ∧ -1 ≤ z ∧ z ≤ n ∧ X z
theorem restExpr_c (N : Nat) : ∀ (x : Ex) (n : Int), x.pre.length ≤ N → -1 ≤ n → n ≤ 1000 →
    PCalls Try.prog 9 [x.v, iv n] [] (Left n fun z => 0 ≤ z → (x.pre.length : Int) = n - z ∧ ∀ y ∈ x.pre, y.kids.length ≤ 1000 ∧ y.mon.length ≤ 1000 ∧ y.name.length ≤ 1000) := by
  induction N with
  | zero => intro x n h; have := x.pre_pos; omega
  | succ N ih =>
    intro x n hN hn0 hn1
    refine fn_sem pok 44 0 Try.func9 (by kernel_rfl) rfl rfl rfl rfl ?_
    refine SWp.go pok (by kernel_rfl) ?_
    refine brP_split (fun h => ?_) (fun h => ?_)
    · exact ⟨-1, rfl, rfl, by omega, by omega, fun h => by omega⟩
    have hm : x.mon.length ≤ 200 := by simp at h; omega
    refine brP_split (fun h => ?_) (fun h => ?_)
    · exact ⟨-1, rfl, rfl, by omega, by omega, fun h => by omega⟩
    have hnm : x.name.length ≤ 200 := by simp at h; omega
    refine brP_split (fun h => ?_) (fun h => ?_)
    · exact ⟨-1, rfl, rfl, by omega, by omega, fun h => by omega⟩
    have hk : (x.kids.length : Int) ≤ n := by simp at h; omega
    have hsub : IntKind.i64.wrap (n - 1) = n - 1 := wrap_in (by unfold R64; omega)
    refine SWp.loop (fun q : Nat × Int => q.1 ≤ x.kids.length ∧ -1 ≤ q.2 ∧ q.2 ≤ n - 1 ∧ (0 ≤ q.2 → ((Ex.pres (x.kids.take q.1)).length : Int) = n - 1 - q.2 ∧ ∀ y ∈ Ex.pres (x.kids.take q.1), y.kids.length ≤ 1000 ∧ y.mon.length ≤ 1000 ∧ y.name.length ≤ 1000))
      (fun q => ([(1, iv q.2), (2, .ptr 0 0), (5, iv q.1)], [.box [iv x.op, sv' x.mon, sv' x.name, iv x.n, .d (.sl (x.kids.map Ex.e)), iv x.pl]])) (fun q => x.kids.length - q.1) (0, n - 1)
      ⟨Nat.zero_le _, by show -1 ≤ n - 1; omega, Int.le_refl _, fun _ => ⟨by simp [Ex.pres], by simp [Ex.pres]⟩⟩ (Le.same ⟨sint hsub, rfl, rfl, trivial⟩) (fun q hq => ?_)
    obtain ⟨k, m⟩ := q
    obtain ⟨hj, hm0, hm1, hX⟩ := hq
    simp only at hj hm0 hm1 hX
    have fin : (k = x.kids.length ∨ m < 0) → 0 ≤ m → (x.pre.length : Int) = n - m ∧ ∀ y ∈ x.pre, y.kids.length ≤ 1000 ∧ y.mon.length ≤ 1000 ∧ y.name.length ≤ 1000 := fun hor hm => by
      have hk' : k = x.kids.length := by omega
      obtain ⟨h1, h2⟩ := hX hm
      rw [hk', List.take_length] at h1 h2
      rw [x.pre_eq]
      refine ⟨by rw [List.length_cons]; omega, fun y hy => ?_⟩
      rcases List.mem_cons.1 hy with e | e
      · subst e; exact ⟨by omega, by omega, by omega⟩
      · exact h2 y e
    refine SWp.go pok (by kernel_rfl) ?_
    refine brP_split (fun h => ?_) (fun h => ?_)
    · have hlt : k < x.kids.length := by simpa using h
      have hlk := Ex.pre_kid (List.getElem_mem hlt)
      have hsn := Ex.pres_snoc hlt
      refine brP_split (fun h2 => ?_) (fun h2 => ?_)
      · have h2 : 0 ≤ m := by simpa using h2
        refine PIdx.ex hlt ?_
        refine PCalls.mono (ih x.kids[k] m (by omega) hm0 (by omega)) ?_
        rintro r h' ⟨z, rfl, rfl, z0, z1, zX⟩
        exact ⟨(k + 1, z), ⟨hlt, z0, by show z ≤ n - 1; omega, fun hz => by
          obtain ⟨a1, a2⟩ := hX h2
          obtain ⟨b1, b2⟩ := zX hz
          rw [hsn]
          refine ⟨by rw [List.length_append]; show _ = n - 1 - z; omega, fun y hy => ?_⟩
          rcases List.mem_append.1 hy with e | e
          · exact a2 y e
          · exact b2 y e⟩, by show x.kids.length - (k + 1) < x.kids.length - k; omega, Le.same ⟨rfl, rfl, sint (wrap_nat k (by omega)), trivial⟩⟩
      · have h2 : m < 0 := by simpa using h2
        exact ⟨m, rfl, rfl, hm0, by omega, fun hz => by omega⟩
    · have hk' : k = x.kids.length := by simp at h; omega
      exact ⟨m, rfl, rfl, hm0, by omega, fun hz => fin (.inl hk') hz⟩
end Go.Proofs.Ytmflfcbebeikcaa.Q

namespace Go.Proofs.Ytmflfcbebeikcaa.Q
open Go.RowKit
def Ex.nums (x : Ex) : Prop := ∀ y ∈ x.pre, R64 y.n
theorem rd_Ex (fuel : Nat) : RdD Try.prog fuel 25 (fun r => ∃ x : Ex, Ex.nums x ∧ r = x.e) := by
  letI : Amb := ambD
  induction fuel using Nat.strongRecOn with
  | _ fuel ih =>
    refine (rdD_struct (fs := [(3, 0), (9, 1), (9, 2), (2, 3), (23, 4), (3, 5)]) (by kernel_rfl) (sz := 1 + (1 + (1 + (1 + (1 + 1))))) (by kernel_rfl) fuel fun m hm =>
      frD_cons (by kernel_rfl) (rd_int m) (frD_cons (by kernel_rfl) (rd_str m) (frD_cons (by kernel_rfl) (rd_str m) (frD_cons (by kernel_rfl) (rd_int64 m)
        (frD_cons (by kernel_rfl) (rdD_slice (sz := 6) (e := 25) (by kernel_rfl) (by kernel_rfl) (by decide) m fun m' hm' => ih m' (by omega)) (frD_last (by kernel_rfl) (rd_int m))))))).mono ?_
    rintro r ⟨_, _, ⟨op, h1, rfl⟩, ⟨_, _, ⟨mon, h2, rfl⟩, ⟨_, _, ⟨name, h3, rfl⟩, ⟨_, _, ⟨n, h4, rfl⟩, ⟨_, _, ⟨rows, h5, h6, rfl⟩, ⟨pl, h7, rfl⟩, rfl⟩, rfl⟩, rfl⟩, rfl⟩, rfl⟩
    obtain ⟨l, rfl, hl⟩ := rows_map h5
    refine ⟨⟨op, mon, name, n, l, pl⟩, fun y hy => ?_, by rw [Ex.e_eq]; rfl⟩
    rw [Ex.pre_eq] at hy
    rcases List.mem_cons.1 hy with e | e
    · subst e; exact h4
    · rw [Ex.pres_map] at e
      obtain ⟨z, hz, hyz⟩ := List.mem_flatMap.1 e
      exact hl z hz y hyz
section
variable {H : Type} {enc : TypeId × Value → H} {d : DataW H} {p : List MemPlace} {base : Nat}
theorem read_Ex (W : World) (v : Value) (hv : Value.okWide Try.prog W .any base 25 v) (h : DataW.Trod enc Try.prog W 0 (fun _ => true) true 25 v d p) : ∃ x : Ex, x.nums ∧ x.v.rep (allG W) (fun _ _ => none) v := by
  obtain ⟨r, ⟨x, hx, rfl⟩, hr⟩ := read_agg (fs := [(3, 0), (9, 1), (9, 2), (2, 3), (23, 4), (3, 5)]) (by kernel_rfl) rd_Ex hv h
  refine ⟨x, hx, ?_⟩
  rw [Ex.e_row] at hr
  exact hr
end
end Go.Proofs.Ytmflfcbebeikcaa.Q
