/- Names, expressions, types: what names, lex, tree, types and lin's Of compute. No condition. -/
import Derived.Test.YtlafnhpmhflnaaaMC
import Derived.Test.YtlafnhpmhflnaaaMD
import Derived.Test.YtlafnhpmhflnaaaMB
import Derived.Shelf.Strings.Search1
set_option linter.unusedVariables false
set_option linter.unusedSectionVars false
set_option linter.unnecessarySimpa false
set_option linter.unusedSimpArgs false
set_option maxRecDepth 100000
set_option maxHeartbeats 4000000
namespace Go.Proofs.Ytlafnhpmhflnaaa.Q
open Go.RowKit
variable [Amb]
abbrev sv' (s : Str) : V := .d (.str s)
/-- At which place it holds first, from a place on; -1: nowhere. -/
def firstF {α : Type} (p : α → Bool) : Nat → List α → Int
  | _, [] => -1
  | k, t :: r => if p t = true then k else firstF p (k + 1) r
theorem firstF_at {α : Type} (p : α → Bool) {l : List α} {k : Nat} (h : k < l.length) : firstF p k (l.drop k) = if p l[k] = true then (k : Int) else firstF p (k + 1) (l.drop (k + 1)) := by rw [List.drop_eq_getElem_cons h]; rfl
def Mo.v (x : Mo) : V := .agg [sv' x.name, .d (.sl (x.vars.map Vr.c)), .d (.sl (x.methods.map Mt.c)), iv x.pl]
theorem monFn_c (t : Mo) (s : Str) : PFun Try.prog 90 [t.v, .ptr 0 0] [.box [sv' s]] (.d (.bool (t.name == s))) [.box [sv' s]] := by
  refine fn_sem pok 8 1 Try.func90 (by kernel_rfl) rfl rfl rfl rfl ?_
  refine SWp.go pok (by kernel_rfl) ?_
  refine brP_split (fun h => ?_) (fun h => ?_)
  · exact ⟨dbool h.symm, rfl⟩
  · exact ⟨dbool h.symm, rfl⟩
theorem idxMon_c (l : List Mo) (s : Str) (hl : l.length < 1073741824) : PFun Try.prog 89 [.d (.sl (l.map Mo.c)), .fn (.func 90) [] [.ptr 0 0]] [.box [sv' s]] (iv (firstF (fun t : Mo => t.name == s) 0 l)) [.box [sv' s]] := by
  refine fn_sem pok 19 1 Try.func89 (by kernel_rfl) rfl rfl rfl rfl ?_
  refine SWp.go pok (by kernel_rfl) ?_
  refine SWp.loop (fun k : Nat => k ≤ l.length ∧ firstF (fun t : Mo => t.name == s) k (l.drop k) = firstF (fun t : Mo => t.name == s) 0 l) (fun k => ([(0, .d (.sl (l.map Mo.c))), (1, .fn (.func 90) [] [.ptr 0 0]), (7, iv (l.map Mo.c).length), (8, iv k)], [.box [sv' s]])) (fun k => l.length - k) 0 ⟨Nat.zero_le _, rfl⟩ (Le.same ⟨rfl, rfl, rfl, rfl, trivial⟩) (fun k hk => ?_)
  obtain ⟨hj, hk⟩ := hk
  refine SWp.go pok (by kernel_rfl) ?_
  refine brP_split (fun h => ?_) (fun h => ?_)
  · have hlt : k < l.length := by simpa using h
    have hat := firstF_at (fun t : Mo => t.name == s) hlt
    refine PIdx.map (get_at hlt) ?_
    refine PFun.call (monFn_c l[k] s) ?_
    refine brP_split (fun h3 => ?_) (fun h3 => ?_)
    · exact ⟨dint (by rw [← hk, hat, if_pos h3]), rfl⟩
    · exact ⟨k + 1, ⟨hlt, by rw [← hk, hat, if_neg (by rw [h3]; simp)]⟩, by omega, Le.same ⟨rfl, rfl, rfl, sint (wrap_nat k (by omega)), trivial⟩⟩
  · have hk' : k = l.length := by simp at h; omega
    exact ⟨dint (by rw [← hk, List.drop_of_length_le (by omega)]; rfl), rfl⟩
def monS (p : Pg) (s : Str) : Int × Bool := if 0 ≤ firstF (fun t : Mo => t.name == s) 0 p.mons then (firstF (fun t : Mo => t.name == s) 0 p.mons, true) else (0, false)
theorem namesMonitor_c (p : Pg) (s : Str) (hl : p.mons.length < 1073741824) : PFun Try.prog 72 [p.v, sv' s] [] (ib (monS p s)) [] := by
  refine fn_sem pok 15 0 Try.func72 (by kernel_rfl) rfl rfl rfl rfl ?_
  refine SWp.go pok (by kernel_rfl) ?_
  refine PFun.call (idxMon_c p.mons s hl) ?_
  refine brP_split (fun h => ?_) (fun h => ?_)
  · have h' : 0 ≤ firstF (fun t : Mo => t.name == s) 0 p.mons := by simpa using h
    refine fin1 ?_
    rw [monS, if_pos h']
    exact tup2 (dint (by show maxI _ [0] = _; simp only [maxI]; omega)) rfl
  · have h' : ¬ 0 ≤ firstF (fun t : Mo => t.name == s) 0 p.mons := by simpa using h
    refine fin1 ?_
    rw [monS, if_neg h']
    exact tup2 (dint (by show maxI _ [0] = _; simp only [maxI]; omega)) rfl
end Go.Proofs.Ytlafnhpmhflnaaa.Q

namespace Go.Proofs.Ytlafnhpmhflnaaa.Q
open Go.RowKit
variable [Amb]
def Vr.v (x : Vr) : V := .agg [sv' x.name, iv x.type, iv x.lo, iv x.hi, iv x.init, iv x.pl]
theorem slotFn_c (t : Vr) (s : Str) : PFun Try.prog 74 [t.v, .ptr 0 0] [.box [sv' s]] (.d (.bool (t.name == s))) [.box [sv' s]] := by
  refine fn_sem pok 8 1 Try.func74 (by kernel_rfl) rfl rfl rfl rfl ?_
  refine SWp.go pok (by kernel_rfl) ?_
  refine brP_split (fun h => ?_) (fun h => ?_)
  · exact ⟨dbool h.symm, rfl⟩
  · exact ⟨dbool h.symm, rfl⟩
theorem idxVar_c (l : List Vr) (s : Str) (hl : l.length < 1073741824) : PFun Try.prog 73 [.d (.sl (l.map Vr.c)), .fn (.func 74) [] [.ptr 0 0]] [.box [sv' s]] (iv (firstF (fun t : Vr => t.name == s) 0 l)) [.box [sv' s]] := by
  refine fn_sem pok 19 1 Try.func73 (by kernel_rfl) rfl rfl rfl rfl ?_
  refine SWp.go pok (by kernel_rfl) ?_
  refine SWp.loop (fun k : Nat => k ≤ l.length ∧ firstF (fun t : Vr => t.name == s) k (l.drop k) = firstF (fun t : Vr => t.name == s) 0 l) (fun k => ([(0, .d (.sl (l.map Vr.c))), (1, .fn (.func 74) [] [.ptr 0 0]), (7, iv (l.map Vr.c).length), (8, iv k)], [.box [sv' s]])) (fun k => l.length - k) 0 ⟨Nat.zero_le _, rfl⟩ (Le.same ⟨rfl, rfl, rfl, rfl, trivial⟩) (fun k hk => ?_)
  obtain ⟨hj, hk⟩ := hk
  refine SWp.go pok (by kernel_rfl) ?_
  refine brP_split (fun h => ?_) (fun h => ?_)
  · have hlt : k < l.length := by simpa using h
    have hat := firstF_at (fun t : Vr => t.name == s) hlt
    refine PIdx.map (get_at hlt) ?_
    refine PFun.call (slotFn_c l[k] s) ?_
    refine brP_split (fun h3 => ?_) (fun h3 => ?_)
    · exact ⟨dint (by rw [← hk, hat, if_pos h3]), rfl⟩
    · exact ⟨k + 1, ⟨hlt, by rw [← hk, hat, if_neg (by rw [h3]; simp)]⟩, by omega, Le.same ⟨rfl, rfl, rfl, sint (wrap_nat k (by omega)), trivial⟩⟩
  · have hk' : k = l.length := by simp at h; omega
    exact ⟨dint (by rw [← hk, List.drop_of_length_le (by omega)]; rfl), rfl⟩
end Go.Proofs.Ytlafnhpmhflnaaa.Q

namespace Go.Proofs.Ytlafnhpmhflnaaa.Q
open Go.RowKit
variable [Amb]
/-- How many variables these monitors have. -/
def nVars (l : List Mo) : Nat := (l.map fun m => m.vars.length).sum
theorem firstF_lt {α : Type} (p : α → Bool) : ∀ (l : List α) (k : Nat), firstF p k l < k + l.length ∧ (firstF p k l = -1 ∨ (k : Int) ≤ firstF p k l)
  | [], k => by simp [firstF]; omega
  | t :: r, k => by
    unfold firstF
    have := firstF_lt p r (k + 1)
    split
    · simp; omega
    · simp; omega
def slotS (p : Pg) (mon name : Str) : Int × Bool :=
  if (monS p mon).2 = true then match p.mons[(monS p mon).1.toNat]? with
    | some m => if firstF (fun t : Vr => t.name == name) 0 m.vars < 0 then (0, false) else (firstF (fun t : Vr => t.name == name) 0 m.vars + nVars (p.mons.take (monS p mon).1.toNat), true)
    | none => (0, false)
  else (0, false)
theorem nVars_snoc {l : List Mo} {k : Nat} (h : k < l.length) : nVars (l.take (k + 1)) = nVars (l.take k) + l[k].vars.length := by
  unfold nVars
  rw [take_snoc l k h, List.map_append, List.sum_append]; simp
theorem nVars_le {l : List Mo} (k : Nat) : nVars (l.take k) ≤ nVars l := by
  unfold nVars
  have : (l.map fun m => m.vars.length).sum = ((l.take k).map fun m => m.vars.length).sum + ((l.drop k).map fun m => m.vars.length).sum := by
    rw [← List.sum_append, ← List.map_append, List.take_append_drop]
  omega
theorem namesSlot_c (p : Pg) (mon name : Str) (hl : p.mons.length < 1073741824) (hn : nVars p.mons < 1073741824) : PFun Try.prog 57 [p.v, sv' mon, sv' name] [] (ib (slotS p mon name)) [] := by
  refine fn_sem pok 47 0 Try.func57 (by kernel_rfl) rfl rfl rfl rfl ?_
  refine SWp.go pok (by kernel_rfl) ?_
  refine PFun.call (namesMonitor_c p mon hl) ?_
  refine brP_split (fun h => ?_) (fun h => ?_)
  · exact fin1 (ib_f (if_neg (by simpa using h)))
  have h1 : (monS p mon).2 = true := by simpa using h
  have hm : 0 ≤ firstF (fun t : Mo => t.name == mon) 0 p.mons ∧ (monS p mon).1 = firstF (fun t : Mo => t.name == mon) 0 p.mons := by
    unfold monS at h1 ⊢
    split at h1
    · rename_i hh; exact ⟨hh, by rw [if_pos hh]⟩
    · cases h1
  obtain ⟨i, hi⟩ := Int.eq_ofNat_of_zero_le hm.1
  have hil : i < p.mons.length := by have := (firstF_lt (fun t : Mo => t.name == mon) p.mons 0).1; omega
  have hmi : (monS p mon).1 = (i : Int) := by rw [hm.2, hi]
  have hs : slotS p mon name = if firstF (fun t : Vr => t.name == name) 0 p.mons[i].vars < 0 then (0, false) else (firstF (fun t : Vr => t.name == name) 0 p.mons[i].vars + nVars (p.mons.take i), true) := by
    unfold slotS; rw [if_pos h1, hmi]; simp [hil]
  have hv : p.mons[i].vars.length ≤ nVars p.mons := by have := nVars_snoc hil; have := nVars_le (l := p.mons) (i + 1); omega
  refine PIdx.map' hmi (get_at hil) ?_
  refine PFun.call (idxVar_c p.mons[i].vars name (by omega)) ?_
  obtain ⟨f, hf⟩ : ∃ f, firstF (fun t : Vr => t.name == name) 0 p.mons[i].vars = f := ⟨_, rfl⟩
  have hfl := firstF_lt (fun t : Vr => t.name == name) p.mons[i].vars 0
  refine brP_split (fun h => ?_) (fun h => ?_)
  · exact fin1 (ib_f (by rw [hs, if_pos (by simpa using h)]))
  rw [if_neg (by simpa using h)] at hs
  have h0 : 0 ≤ f := by rw [hf] at h; simpa using h
  rw [hf] at hfl
  have hrl : ((p.mons.map Mo.c).take (monS p mon).1.toNat).length = i := by rw [hmi]; simp; omega
  refine ⟨⟨by rw [hmi]; omega, by rw [hmi]; simp; omega⟩, fun r hr => by obtain ⟨t, _, rfl⟩ := List.mem_map.1 hr; rfl, ?_⟩
  refine SWp.loop (fun k : Nat => k ≤ i) (fun k => ([(10, iv (firstF (fun t : Vr => t.name == name) 0 p.mons[i].vars + nVars (p.mons.take k))), (34, .d (.sl ((p.mons.map Mo.c).take (monS p mon).1.toNat))), (35, iv ((p.mons.map Mo.c).take (monS p mon).1.toNat).length), (36, iv k)], [.box [.d (.sl (p.mons.map Mo.c)), .d (.sl (p.roles.map Ro.c))], .box [sv' name]])) (fun k => i - k) 0 (Nat.zero_le _) (Le.same ⟨sint (by simp [nVars]), rfl, rfl, rfl, trivial⟩) (fun k hk => ?_)
  refine SWp.go pok (by kernel_rfl) ?_
  refine brP_split (fun h => ?_) (fun h => ?_)
  · have hlt : k < i := by rw [hrl] at h; simpa using h
    have hkl : k < p.mons.length := by omega
    refine PIdx.at (x := Mo.c p.mons[k]) (by rw [List.getElem?_take, if_pos (by rw [hmi]; simpa using hlt)]; simp [hkl]) ?_
    have e1 := nVars_snoc hkl
    have e2 := nVars_le (l := p.mons) (k + 1)
    exact ⟨k + 1, hlt, by omega, .inr ⟨[0, 1], ⟨rfl, rfl⟩, rfl, sint (by rw [hf, wrap_in (by unfold R64; simp; omega)]; simp; omega), rfl, rfl, sint (wrap_nat k (by omega)), trivial⟩⟩
  · have hk' : k = i := by rw [hrl] at h; simp at h; omega
    subst hk'
    refine fin1 ?_
    rw [hs]; rfl
end Go.Proofs.Ytlafnhpmhflnaaa.Q

namespace Go.Proofs.Ytlafnhpmhflnaaa.Q
open Go.RowKit
variable [Amb]
def slotsS (l : List Mo) : List Vr := l.flatMap fun m => m.vars
theorem slotsS_snoc {l : List Mo} {k : Nat} (h : k < l.length) : slotsS (l.take (k + 1)) = slotsS (l.take k) ++ l[k].vars := by
  unfold slotsS; rw [take_snoc l k h, List.flatMap_append]; simp
theorem slotsS_len (l : List Mo) : (slotsS l).length = nVars l := by unfold slotsS nVars; simp [List.length_flatMap]
theorem RL_vr (l : List Vr) : RL (l.map Vr.c) 6 := fun r hr => by obtain ⟨t, _, rfl⟩ := List.mem_map.1 hr; rfl
theorem namesSlots_c (p : Pg) (hl : p.mons.length < 1073741824) (hn : nVars p.mons < 1073741824) : PFun Try.prog 52 [p.v] [] (.d (.sl ((slotsS p.mons).map Vr.c))) [] := by
  refine fn_sem pok 18 0 Try.func52 (by kernel_rfl) rfl rfl rfl rfl ?_
  refine SWp.go pok (by kernel_rfl) ?_
  refine SWp.tipSlot 2 6 rfl ?_
  refine SWp.loop (fun q : Nat × List (List D) => q.1 ≤ p.mons.length ∧ q.2 = (slotsS (p.mons.take q.1)).map Vr.c) (fun q => ([(2, .gsl q.2 1), (6, .d (.sl (p.mons.map Mo.c))), (7, iv (p.mons.map Mo.c).length), (8, iv q.1)], [.box [.d (.sl (p.mons.map Mo.c)), .d (.sl (p.roles.map Ro.c))], .tip 6 q.2.length])) (fun q => p.mons.length - q.1) (0, []) ⟨Nat.zero_le _, by simp [slotsS]⟩ (Le.same ⟨rfl, rfl, rfl, rfl, trivial⟩) (fun q hq => ?_)
  obtain ⟨k, rows⟩ := q
  obtain ⟨hk, hr⟩ := hq
  simp only at hk hr
  subst hr
  refine SWp.go pok (by kernel_rfl) ?_
  refine brP_split (fun h => ?_) (fun h => ?_)
  · have hlt : k < p.mons.length := by simpa using h
    have hs := slotsS_snoc hlt
    have e1 := nVars_le (l := p.mons) (k + 1)
    rw [← slotsS_len, hs] at e1
    refine PIdx.map (get_at hlt) ?_
    refine ⟨⟨rfl, RL_vr _, RL_vr _, by simp at e1 ⊢; omega⟩, ?_⟩
    exact ⟨(k + 1, (slotsS (p.mons.take k)).map Vr.c ++ p.mons[k].vars.map Vr.c), ⟨hlt, by show _ = (slotsS (p.mons.take (k + 1))).map Vr.c; rw [hs, List.map_append]⟩, by show p.mons.length - (k + 1) < p.mons.length - k; omega, .inr ⟨[0, 1], ⟨rfl, rfl⟩, rfl, rfl, rfl, rfl, sint (wrap_nat k (by omega)), trivial⟩⟩
  · have hk' : p.mons.take k = p.mons := List.take_of_length_le (by simp at h; omega)
    exact fin1 (by rw [hk'])
end Go.Proofs.Ytlafnhpmhflnaaa.Q

namespace Go.Proofs.Ytlafnhpmhflnaaa.Q
open Go.RowKit
variable [Amb]
/-- An expression's cells. -/
def Ex.row (x : Ex) : List D := [.int .i64 x.op, .str x.mon, .str x.name, .int .i64 x.n, .sl (x.kids.map Ex.e), .int .i64 x.pl]
theorem Ex.e_row (x : Ex) : x.e = x.row := x.e_eq
def Ex.v (x : Ex) : V := .agg [iv x.op, sv' x.mon, sv' x.name, iv x.n, .d (.sl (x.kids.map Ex.e)), iv x.pl]
theorem PIdx.ex {l : List Ex} {k : Nat} {K : List D → Prop} (h : k < l.length) (c : K (Ex.row l[k])) : PIdx (l.map Ex.e) (k : Int) K := PIdx.map (get_at h) (by rw [Ex.e_row]; exact c)
mutual
/-- An expression and all its parts, the whole first. -/
def Ex.pre : Ex → List Ex
  | ⟨op, mon, name, n, kids, pl⟩ => ⟨op, mon, name, n, kids, pl⟩ :: Ex.pres kids
def Ex.pres : List Ex → List Ex
  | [] => []
  | x :: r => x.pre ++ Ex.pres r
end
theorem Ex.pre_eq (x : Ex) : x.pre = x :: Ex.pres x.kids := by cases x; rw [Ex.pre]
theorem Ex.pres_map : ∀ l : List Ex, Ex.pres l = l.flatMap Ex.pre
  | [] => by simp [Ex.pres]
  | x :: r => by rw [Ex.pres, Ex.pres_map r]; simp
theorem Ex.pres_snoc {l : List Ex} {k : Nat} (h : k < l.length) : Ex.pres (l.take (k + 1)) = Ex.pres (l.take k) ++ l[k].pre := by
  rw [Ex.pres_map, Ex.pres_map, take_snoc l k h, List.flatMap_append]; simp
theorem Ex.pre_pos (x : Ex) : 0 < x.pre.length := by rw [x.pre_eq]; simp
theorem Ex.pre_kid {x y : Ex} (h : y ∈ x.kids) : y.pre.length < x.pre.length := by
  rw [x.pre_eq, Ex.pres_map]
  obtain ⟨a, b, e⟩ := List.append_of_mem h
  rw [e]; simp [List.length_flatMap]; omega
theorem Ex.pre_sub {x y z : Ex} (h : y ∈ x.kids) (k : z ∈ y.pre) : z ∈ x.pre := by
  rw [x.pre_eq, Ex.pres_map]
  exact List.mem_cons_of_mem _ (List.mem_flatMap.2 ⟨y, h, k⟩)
theorem Ex.kids_len (x : Ex) : x.kids.length < x.pre.length := by
  rw [x.pre_eq, Ex.pres_map]
  have : ∀ l : List Ex, l.length ≤ (l.flatMap Ex.pre).length := by
    intro l
    induction l with
    | nil => simp
    | cons y r ih => have := y.pre_pos; rw [List.flatMap_cons, List.length_append, List.length_cons]; omega
  have := this x.kids
  rw [List.length_cons]; omega
/-- Expressions are handed on, one behind the other, until one says no. -/
def runY : List (List V) → List Ex → Bool × List (List V)
  | xs, [] => (true, xs)
  | xs, y :: ys => if Amb.go (xs ++ [[y.v]]) = true then runY (xs ++ [[y.v]]) ys else (false, xs ++ [[y.v]])
theorem runY_yes {y : Ex} {ys : List Ex} {xs : List (List V)} (h : Amb.go (xs ++ [[y.v]]) = true) : runY xs (y :: ys) = runY (xs ++ [[y.v]]) ys := by rw [runY, if_pos h]
theorem runY_no {y : Ex} {ys : List Ex} {xs : List (List V)} (h : ¬ Amb.go (xs ++ [[y.v]]) = true) : runY xs (y :: ys) = (false, xs ++ [[y.v]]) := by rw [runY, if_neg h]
theorem runY_append_yes : ∀ (l1 l2 : List Ex) (xs : List (List V)), (runY xs l1).1 = true → runY xs (l1 ++ l2) = runY (runY xs l1).2 l2
  | [], l2, xs, _ => rfl
  | y :: ys, l2, xs, k => by
    by_cases h : Amb.go (xs ++ [[y.v]]) = true
    · rw [runY_yes h] at k ⊢; rw [List.cons_append, runY_yes h]; exact runY_append_yes ys l2 _ k
    · rw [runY_no h] at k; cases k
theorem runY_append_no : ∀ (l1 l2 : List Ex) (xs : List (List V)), (runY xs l1).1 = false → runY xs (l1 ++ l2) = runY xs l1
  | [], l2, xs, k => by cases k
  | y :: ys, l2, xs, k => by
    by_cases h : Amb.go (xs ++ [[y.v]]) = true
    · rw [runY_yes h] at k ⊢; rw [List.cons_append, runY_yes h]; exact runY_append_no ys l2 _ k
    · rw [runY_no h, List.cons_append, runY_no h]
def Wents (xs : List (List V)) : Prop := ∀ m, 0 < m → m ≤ xs.length → Amb.go (xs.take m) = true
theorem Wents.snoc {xs : List (List V)} {a : List V} (h : Wents xs) (k : Amb.go (xs ++ [a]) = true) : Wents (xs ++ [a]) := fun m h0 hm => by
  by_cases e : m ≤ xs.length
  · rw [List.take_append_of_le_length e]; exact h m h0 e
  · have : m = (xs ++ [a]).length := by simp at hm ⊢; omega
    rw [this, List.take_length]; exact k
theorem runY_went : ∀ (l : List Ex) (xs : List (List V)), Wents xs → (runY xs l).1 = true → Wents (runY xs l).2
  | [], xs, h, _ => h
  | y :: ys, xs, h, k => by
    by_cases hg : Amb.go (xs ++ [[y.v]]) = true
    · rw [runY_yes hg] at k ⊢; exact runY_went ys _ (h.snoc hg) k
    · rw [runY_no hg] at k; cases k
abbrev walkH (xs : List (List V)) : List Ob := [.box [.yld 1], .hist xs, .box [.fn (.func 86) [] [.ptr 0 0, .ptr 2 0]]]
theorem walk_c (N : Nat) : ∀ (x : Ex) (xs : List (List V)), x.pre.length ≤ N → x.pre.length < 1073741824 → Wents xs → (∀ zs y, y ∈ x.pre → Amb.ok Try.prog (zs ++ [[y.v]])) →
    PFun Try.prog 86 [x.v, .ptr 0 0, .ptr 2 0] (walkH xs) (.d (.bool (runY xs x.pre).1)) (walkH (runY xs x.pre).2) := by
  induction N with
  | zero => intro x xs h; have := x.pre_pos; omega
  | succ N ih =>
    intro x xs hN hB hw hok
    have hkl := x.kids_len
    refine fn_sem pok 23 3 Try.func86 (by kernel_rfl) rfl rfl rfl rfl ?_
    refine SWp.go pok (by kernel_rfl) ?_
    refine ⟨⟨hok xs x (by rw [x.pre_eq]; exact List.mem_cons_self), hw⟩, brP_split (fun h => ?_) (fun h => ?_)⟩
    · have hw1 := hw.snoc h
      have hr0 : runY xs x.pre = runY (xs ++ [[x.v]]) (Ex.pres x.kids) := by rw [x.pre_eq, runY_yes h]
      refine SWp.loop (fun k : Nat => k ≤ x.kids.length ∧ (runY (xs ++ [[x.v]]) (Ex.pres (x.kids.take k))).1 = true)
        (fun k => ([(1, .ptr 0 0), (2, .ptr 2 0), (12, .d (.sl (x.kids.map Ex.e))), (13, iv (x.kids.map Ex.e).length), (14, iv k)], walkH (runY (xs ++ [[x.v]]) (Ex.pres (x.kids.take k))).2))
        (fun k => x.kids.length - k) 0 ⟨Nat.zero_le _, by simp [Ex.pres, runY]⟩ (.inr ⟨[0, 1, 2], ⟨rfl, rfl⟩, rfl, rfl, rfl, rfl, rfl, rfl, trivial⟩) (fun k hk => ?_)
      obtain ⟨hj, hk⟩ := hk
      refine SWp.go pok (by kernel_rfl) ?_
      refine brP_split (fun h2 => ?_) (fun h2 => ?_)
      · have hlt : k < x.kids.length := by simpa using h2
        have hm := List.getElem_mem hlt
        have hsn := Ex.pres_snoc hlt
        have hlk := Ex.pre_kid hm
        have hap := runY_append_yes (Ex.pres (x.kids.take k)) x.kids[k].pre (xs ++ [[x.v]]) hk
        rw [← hsn] at hap
        refine PIdx.ex hlt ?_
        refine PFun.call (ih x.kids[k] (runY (xs ++ [[x.v]]) (Ex.pres (x.kids.take k))).2 (by omega) (by omega) (runY_went _ _ hw1 hk) (fun zs y hy => hok zs y (Ex.pre_sub hm hy))) ?_
        rw [← hap]
        refine brP_split (fun h3 => ?_) (fun h3 => ?_)
        · have h3 : (runY (xs ++ [[x.v]]) (Ex.pres (x.kids.take (k + 1)))).1 = false := by simpa using h3
          have hfin : runY xs x.pre = runY (xs ++ [[x.v]]) (Ex.pres (x.kids.take (k + 1))) := by
            rw [hr0]
            have e1 : x.kids = x.kids.take (k + 1) ++ x.kids.drop (k + 1) := (List.take_append_drop _ _).symm
            have e2 : Ex.pres x.kids = Ex.pres (x.kids.take (k + 1)) ++ Ex.pres (x.kids.drop (k + 1)) := by
              rw [Ex.pres_map, Ex.pres_map, Ex.pres_map, ← List.flatMap_append, ← e1]
            rw [e2, runY_append_no _ _ _ h3]
          exact ⟨by rw [hfin, h3], by rw [hfin]⟩
        · exact ⟨k + 1, ⟨hlt, by simpa using h3⟩, by omega, .inr ⟨[0, 1, 2], ⟨rfl, rfl⟩, rfl, rfl, rfl, rfl, rfl, sint (wrap_nat k (by omega)), trivial⟩⟩
      · have hk' : x.kids.take k = x.kids := List.take_of_length_le (by simp at h2; omega)
        rw [hk'] at hk ⊢
        exact ⟨by rw [hr0, hk], by rw [hr0]⟩
    · have hr0 : runY xs x.pre = (false, xs ++ [[x.v]]) := by rw [x.pre_eq, runY_no (fun e => absurd (e.symm.trans h) (by simp))]
      exact ⟨by rw [hr0], by rw [hr0]; rfl⟩
end Go.Proofs.Ytlafnhpmhflnaaa.Q

namespace Go.Proofs
open Go.RowKit Go.Lib
theorem Ytlafnhpmhflnaaa.slIndexByte_w (s : ByteArray) (c : Int) (w : World) :
    Calls Try.prog 101 #[.string s, .int .u8 c] w fun e w' => e = .returned (.int .i64 (Lib.indexByte s.data.toList c.toNat.toUInt8)) ∧ w' = w := by
  go_enter Try.func101, Try.ntmps101
  go_wp2
  rw [run_callFunc_extern Try.func102 (by kernel_rfl) (by kernel_rfl) (by kernel_rfl) (e := Extern.BytealgIndexByte.indexByte) (by kernel_rfl), Lib.run_indexByteString]
  simp only [Result.andThen]
  rw [Oper.upon_value]
  go_wp2
  go_ret
  exact ⟨rfl, rfl⟩
end Go.Proofs
namespace Go.Proofs.Ytlafnhpmhflnaaa.Q
open Go.RowKit
variable [Amb]
/-- A contract of the kit's, as one over pure values. -/
theorem PFun.ofCalls {P : Program} {f : FuncId} {args : List V} {r : V} {vs : List Value} {v : Value} (hf : ∃ fn, P.funcs[f]? = some fn ∧ (fn.name == "runtime.NumGoroutine") = false ∧ fn.body.isNone = false)
    (ha : ∀ G φ us, repVs G φ args us → us = vs) (hr : ∀ G φ, r.rep G φ v) (c : ∀ w, Calls P f vs.toArray w fun e w' => e = .returned v ∧ w' = w) : PFun P f args [] r [] :=
  ⟨hf, fun G w φ us hs hu => by
    rw [ha G φ us hu]
    refine (c w).mono ?_
    rintro e w' ⟨e1, rfl⟩
    exact ⟨v, r, [], G, φ, e1, ⟨rfl, rfl⟩, Nat.le_refl _, hs, Goes.refl _ _ _ _, hr G φ⟩⟩
theorem slIndexByte_c (s : Str) (c : Int) : PFun Try.prog 101 [sv' s, .d (.int .u8 c)] [] (iv (Lib.indexByte s c.toNat.toUInt8)) [] := by
  refine PFun.ofCalls (vs := [.string ⟨s.toArray⟩, .int .u8 c]) (v := .int .i64 (Lib.indexByte s c.toNat.toUInt8)) ⟨_, Try.func101, by kernel_rfl, by kernel_rfl⟩ ?_ (fun _ _ => rfl) (fun w => ?_)
  · rintro G φ us ⟨u, us', rfl, h1, u2, us2, rfl, h2, h3⟩
    have h1 : u = _ := h1
    have h2 : u2 = _ := h2
    have h3 : us2 = [] := h3
    rw [h1, h2, h3]
  · have := Ytlafnhpmhflnaaa.slIndexByte_w ⟨s.toArray⟩ c w
    simpa using this
theorem indexByte_c (s : Str) (c : Int) : PFun Try.prog 100 [sv' s, .d (.int .u8 c)] [] (iv (Lib.indexByte s c.toNat.toUInt8)) [] := by
  refine fn_sem pok 8 0 Try.func100 (by kernel_rfl) rfl rfl rfl rfl ?_
  refine SWp.go pok (by kernel_rfl) ?_
  exact PFun.call (slIndexByte_c s c) ⟨rfl, rfl⟩
/-- The signs. -/
def signs : Str := [123, 125, 40, 41, 59, 58, 61, 60, 62, 43, 45, 42, 33, 46, 38, 124]
/-- What a byte may begin: 0: nothing, 1: a blank, 2: a note, 3: a letter, 4: a digit, 5: a sign. -/
def classS (c : Int) : Int :=
  if c = 32 then 1 else if c = 9 then 1 else if c = 13 then 1 else if c = 10 then 1 else if c = 35 then 2 else
  if 97 ≤ c ∧ c ≤ 122 then 3 else if 65 ≤ c ∧ c ≤ 90 then 3 else if 48 ≤ c ∧ c ≤ 57 then 4 else if 0 ≤ Lib.indexByte signs c.toNat.toUInt8 then 5 else 0
theorem classOf_c (c : Int) : PFun Try.prog 95 [.d (.int .u8 c)] [] (iv (classS c)) [] := by
  refine fn_sem pok 41 0 Try.func95 (by kernel_rfl) rfl rfl rfl rfl ?_
  refine SWp.go pok (by kernel_rfl) ?_
  repeat' (refine brP_split (fun h => ?_) (fun h => ?_))
  all_goals first
    | refine PFun.call (indexByte_c signs c) ?_
      refine brP_split (fun h => ?_) (fun h => ?_)
    | skip
  all_goals
    refine fin1 (dint ?_)
    unfold classS
    simp only [beq_iff_eq, beq_eq_false_iff_ne, ne_eq, decide_eq_true_eq, decide_eq_false_iff_not] at *
    repeat' split
    all_goals first | rfl | omega
def inNameS (c : Int) : Bool := (classS c == 3) || (classS c == 4) || (c == 95)
theorem inName_c (c : Int) : PFun Try.prog 98 [.d (.int .u8 c)] [] (.d (.bool (inNameS c))) [] := by
  refine fn_sem pok 16 0 Try.func98 (by kernel_rfl) rfl rfl rfl rfl ?_
  refine SWp.go pok (by kernel_rfl) ?_
  refine PFun.call (classOf_c c) ?_
  repeat' (refine brP_split (fun h => ?_) (fun h => ?_))
  all_goals
    refine fin1 (dbool ?_)
    unfold inNameS
    simp only [*, Bool.true_or, Bool.or_true, Bool.false_or, Bool.or_false]
/-- Where a row of bytes of a kind ends. -/
def spanF (p : Int → Bool) : Nat → Str → Nat
  | k, [] => k
  | k, b :: r => if p b.toNat = true then spanF p (k + 1) r else k
theorem spanF_at (p : Int → Bool) {l : Str} {k : Nat} (h : k < l.length) : spanF p k (l.drop k) = if p l[k].toNat = true then spanF p (k + 1) (l.drop (k + 1)) else k := by rw [List.drop_eq_getElem_cons h]; rfl
theorem span_c (s : Str) (hs : s.length < 1073741824) : PFun Try.prog 97 [sv' s, iv 0, .fn (.func 98) [] []] [] (iv (spanF inNameS 0 s)) [] := by
  refine fn_sem pok 21 0 Try.func97 (by kernel_rfl) rfl rfl rfl rfl ?_
  refine SWp.go pok (by kernel_rfl) ?_
  refine SWp.loop (fun k : Nat => k ≤ s.length ∧ spanF inNameS k (s.drop k) = spanF inNameS 0 s) (fun k => ([(0, sv' s), (1, iv k), (2, .fn (.func 98) [] [])], [])) (fun k => s.length - k) 0 ⟨Nat.zero_le _, rfl⟩ (Le.same ⟨rfl, rfl, rfl, trivial⟩) (fun k hk => ?_)
  obtain ⟨hj, hk⟩ := hk
  refine SWp.go pok (by kernel_rfl) ?_
  refine brP_split (fun h => ?_) (fun h => ?_)
  · have hlt : k < s.length := by simpa using h
    have hat := spanF_at inNameS hlt
    refine PIdx.at (get_at hlt) ?_
    refine PFun.call (inName_c _) ?_
    refine brP_split (fun h3 => ?_) (fun h3 => ?_)
    · exact ⟨k + 1, ⟨hlt, by rw [← hk, hat, if_pos h3]⟩, by omega, Le.same ⟨rfl, sint (wrap_nat k (by omega)), rfl, trivial⟩⟩
    · exact fin1 (dint (by rw [← hk, hat, if_neg (by rw [h3]; simp)]))
  · have hk' : s.drop k = [] := List.drop_of_length_le (by simp at h; omega)
    have hl : k = s.length := by simp at h; omega
    exact fin1 (dint (by rw [← hk, hk']; rfl))
def words : List Str := [[109, 111, 110, 105, 116, 111, 114], [118, 97, 114], [109, 101, 116, 104, 111, 100], [116, 104, 114, 101, 97, 100], [98, 111, 111, 108], [105, 110, 116], [116, 114, 117, 101], [102, 97, 108, 115, 101], [115, 107, 105, 112], [105, 102],
  [101, 108, 115, 101], [119, 104, 105, 108, 101], [108, 111, 111, 112], [99, 104, 111, 111, 115, 101], [111, 114], [115, 121, 110, 99], [99, 97, 108, 108], [119, 97, 105, 116], [110, 111, 116, 105, 102, 121], [110, 111, 116, 105, 102, 121, 97, 108, 108]]
def isWord (s : Str) : Bool := words.any fun w => s == w
theorem word_c (s : Str) : PFun Try.prog 96 [sv' s] [] (.d (.bool (isWord s))) [] := by
  refine fn_sem pok 25 0 Try.func96 (by kernel_rfl) rfl rfl rfl rfl ?_
  refine SWp.go pok (by kernel_rfl) ?_
  repeat' (refine brP_split (fun h => ?_) (fun h => ?_))
  all_goals
    refine fin1 (dbool ?_)
    simp only [isWord, words, List.any, *, Bool.true_or, Bool.or_true, Bool.false_or, Bool.or_false]
def isName (s : Str) : Bool := !(s == []) && decide (s.length ≤ 32) && (classS ((s.headD 0).toNat : Int) == 3) && !isWord s && (spanF inNameS 0 s == s.length)
theorem name_c (s : Str) (hs : s.length < 1073741824) : PFun Try.prog 88 [sv' s] [] (.d (.bool (isName s))) [] := by
  refine fn_sem pok 25 0 Try.func88 (by kernel_rfl) rfl rfl rfl rfl ?_
  refine SWp.go pok (by kernel_rfl) ?_
  refine brP_split (fun h => ?_) (fun h => ?_)
  · exact fin1 (dbool (by simp only [isName, h]; rfl))
  · have hne : s ≠ [] := by simpa using h
    refine brP_split (fun h1 => ?_) (fun h1 => ?_)
    · have : ¬ s.length ≤ 32 := by simp at h1; omega
      exact fin1 (dbool (by simp [isName, this]))
    · have h32 : s.length ≤ 32 := by simp at h1; omega
      have hh : s[0]? = some (s.headD 0) := by cases s with | nil => exact absurd rfl hne | cons b r => rfl
      refine PIdx.at hh ?_
      refine PFun.call (classOf_c _) ?_
      refine brP_split (fun h2 => ?_) (fun h2 => ?_)
      · have h2 : (classS ((s.headD 0).toNat : Int) == 3) = false := by simpa using h2
        exact fin1 (dbool (by simp only [isName, h2]; simp))
      · have h2 : (classS ((s.headD 0).toNat : Int) == 3) = true := by simpa using h2
        refine PFun.call (word_c s) ?_
        refine brP_split (fun h3 => ?_) (fun h3 => ?_)
        · exact fin1 (dbool (by simp [isName, h3]))
        · refine PFun.call (span_c s hs) ?_
          refine brP_split (fun h4 => ?_) (fun h4 => ?_)
          · have e4 : (spanF inNameS 0 s == s.length) = true := by simp at h4 ⊢; omega
            exact fin1 (dbool (by simp only [isName, h2, h3, e4, decide_eq_true h32, beq_eq_false_iff_ne.2 hne]; rfl))
          · have e4 : (spanF inNameS 0 s == s.length) = false := by simp at h4 ⊢; omega
            exact fin1 (dbool (by simp only [isName, e4, Bool.and_false]))
end Go.Proofs.Ytlafnhpmhflnaaa.Q

namespace Go.Proofs.Ytlafnhpmhflnaaa.Q
open Go.RowKit
variable [Amb]
def partsL : List Int := [-1, 0, 0, 0, 0, 1, 1, 1, 2, 2, 2, 2, 2, 2, 2, 2, 2, 2]
/-- How many parts a kind of expressions has. -/
def partsS (op : Int) : Int := if op < 0 then -1 else if 18 ≤ op then -1 else partsL.getD op.toNat (-1)
theorem parts_c (op : Int) : PFun Try.prog 87 [iv op] [] (iv (partsS op)) [] := by
  refine fn_sem pok 14 0 Try.func87 (by kernel_rfl) rfl rfl rfl rfl ?_
  by_cases h0 : op < 0
  · refine SWp.go pok (by kernel_rfl) ?_
    refine brP_true (decide_eq_true h0) ?_
    exact fin1 (dint (by rw [partsS, if_pos h0]))
  by_cases h1 : 18 ≤ op
  · refine SWp.go pok (by kernel_rfl) ?_
    refine brP_false (decide_eq_false h0) ?_
    refine brP_true (decide_eq_true (by omega)) ?_
    exact fin1 (dint (by rw [partsS, if_neg h0, if_pos h1]))
  have : op = 0 ∨ op = 1 ∨ op = 2 ∨ op = 3 ∨ op = 4 ∨ op = 5 ∨ op = 6 ∨ op = 7 ∨ op = 8 ∨ op = 9 ∨ op = 10 ∨ op = 11 ∨ op = 12 ∨ op = 13 ∨ op = 14 ∨ op = 15 ∨ op = 16 ∨ op = 17 := by omega
  rcases this with rfl | rfl | rfl | rfl | rfl | rfl | rfl | rfl | rfl | rfl | rfl | rfl | rfl | rfl | rfl | rfl | rfl | rfl <;>
  · refine SWp.go pok (by kernel_rfl) ?_
    exact ⟨by decide, fin1 rfl⟩
/-- Whether an expression has its shape, its parts aside. -/
def isPartS (x : Ex) : Bool :=
  ((x.kids.length : Int) == partsS x.op) && (bif x.op == 4 then isName x.mon && isName x.name else (x.mon == []) && (x.name == [])) && (decide (x.n ≥ 0) && ((x.op == 1) || (x.op == 7) || (x.n == 0)))
theorem isPart_c (x : Ex) (hk : x.kids.length < 1073741824) (hm : x.mon.length < 1073741824) (hn : x.name.length < 1073741824) : PFun Try.prog 68 [x.v] [] (.d (.bool (isPartS x))) [] := by
  refine fn_sem pok 62 0 Try.func68 (by kernel_rfl) rfl rfl rfl rfl ?_
  refine SWp.go pok (by kernel_rfl) ?_
  repeat' first
    | refine brP_split (fun h => ?_) (fun h => ?_)
    | refine PFun.call (name_c x.mon hm) ?_
    | refine PFun.call (name_c x.name hn) ?_
    | refine ⟨_, _, parts_c x.op, ?_⟩
  all_goals
    refine fin1 (dbool ?_)
    unfold isPartS
    simp_all
    try omega
end Go.Proofs.Ytlafnhpmhflnaaa.Q

namespace Go.Proofs.Ytlafnhpmhflnaaa.Q
open Go.RowKit
def Ex.cells (x : Ex) : List V := [iv x.op, sv' x.mon, sv' x.name, iv x.n, .d (.sl (x.kids.map Ex.e)), iv x.pl]
section
variable [Amb]
theorem all1_c (x : Ex) (hB : x.pre.length < 1073741824) (hok : ∀ zs y, y ∈ x.pre → Amb.ok Try.prog (zs ++ [[y.v]])) :
    PFun Try.prog 85 [.yld 1, .ptr 0 0] [.box x.cells, .hist []] (.tup []) [.box x.cells, .hist (runY [] x.pre).2] := by
  refine fn_sem pok 8 2 Try.func85 (by kernel_rfl) rfl rfl rfl rfl ?_
  refine SWp.go pok (by kernel_rfl) ?_
  refine PFun.call (walk_c _ x [] (Nat.le_refl _) hB (fun m h0 hm => by simp at hm; omega) hok) ?_
  exact ⟨rfl, rfl⟩
theorem all_c (x : Ex) : PFun Try.prog 67 [x.v] [] (.fn (.func 85) [] [.ptr 0 0]) [.box x.cells] := by
  refine fn_sem pok 4 0 Try.func67 (by kernel_rfl) rfl rfl rfl rfl ?_
  refine SWp.go pok (by kernel_rfl) ?_
  exact ⟨rfl, rfl⟩
end
/-! ### ranges over all parts -/
theorem runY_spec [Amb] (p : Ex → Bool) : ∀ (l : List Ex) (xs : List (List V)), (∀ zs y, y ∈ l → Amb.go (zs ++ [[y.v]]) = p y) →
    (l.all p = true → runY xs l = (true, xs ++ l.map fun y => [y.v])) ∧ (l.all p = false → ∃ zs y, y ∈ l ∧ p y = false ∧ runY xs l = (false, zs ++ [[y.v]]))
  | [], xs, _ => ⟨fun _ => by simp [runY], fun h => by simp at h⟩
  | y :: l, xs, hp => by
    have hg := hp xs y List.mem_cons_self
    have ih := runY_spec p l (xs ++ [[y.v]]) (fun zs z hz => hp zs z (List.mem_cons_of_mem _ hz))
    cases hy : p y with
    | true =>
      rw [hy] at hg
      rw [runY_yes hg]
      refine ⟨fun h => ?_, fun h => ?_⟩
      · rw [ih.1 (by simpa [hy] using h)]; simp
      · obtain ⟨zs, z, h1, h2⟩ := ih.2 (by simpa [hy] using h)
        exact ⟨zs, z, List.mem_cons_of_mem _ h1, h2⟩
    | false =>
      rw [hy] at hg
      rw [runY_no (by rw [hg]; simp)]
      exact ⟨fun h => by simp [hy] at h, fun _ => ⟨xs, y, List.mem_cons_self, hy, rfl⟩⟩
/-- The last that was handed on is not as it must be. -/
def BadLast (p : Ex → Bool) (xs : List (List V)) : Prop := ∃ zs y, xs = zs ++ [[Ex.v y]] ∧ p y = false
noncomputable def lastOr {α : Type} (p : Ex → Bool) (good bad : α) (xs : List (List V)) : α := @ite _ (BadLast p xs) (Classical.propDecidable _) bad good
theorem lastOr_snoc {α : Type} {p : Ex → Bool} (hp : ∀ y z : Ex, y.v = z.v → p y = p z) (good bad : α) (zs : List (List V)) (y : Ex) : lastOr p good bad (zs ++ [[y.v]]) = bif p y then good else bad := by
  unfold lastOr
  cases hy : p y with
  | true =>
    rw [if_neg]; rfl
    rintro ⟨zs', y', e, h⟩
    have e2 := (List.append_inj' e rfl).2
    injection e2 with e2; injection e2 with e2
    rw [hp y y' e2] at hy
    rw [hy] at h; cases h
  | false =>
    rw [if_pos ⟨zs, y, rfl, hy⟩]; rfl
theorem lastOr_nil {α : Type} {p : Ex → Bool} (good bad : α) : lastOr p good bad [] = good := by
  unfold lastOr
  rw [if_neg]
  rintro ⟨zs, y, e, _⟩
  have := congrArg List.length e
  simp at this
theorem lastOr_map {α β : Type} (f : α → β) {p : Ex → Bool} (good bad : α) (xs : List (List V)) : f (lastOr p good bad xs) = lastOr p (f good) (f bad) xs := by
  unfold lastOr
  by_cases h : BadLast p xs
  · rw [if_pos h, if_pos h]
  · rw [if_neg h, if_neg h]
theorem lastOr_cases {α : Type} (p : Ex → Bool) (good bad : α) (xs : List (List V)) : (lastOr p good bad xs = good ∧ ∀ {β : Type} (a b : β), lastOr p a b xs = a) ∨ (lastOr p good bad xs = bad ∧ ∀ {β : Type} (a b : β), lastOr p a b xs = b) := by
  by_cases h : BadLast p xs
  · exact .inr ⟨by unfold lastOr; rw [if_pos h], fun a b => by unfold lastOr; rw [if_pos h]⟩
  · exact .inl ⟨by unfold lastOr; rw [if_neg h], fun a b => by unfold lastOr; rw [if_neg h]⟩
/-- An expression that fits into memory. -/
def Ex.fits (x : Ex) : Prop := x.pre.length < 1073741824 ∧ ∀ y ∈ x.pre, y.kids.length < 1073741824 ∧ y.mon.length < 1073741824 ∧ y.name.length < 1073741824
theorem isPartS_v (y z : Ex) (h : y.v = z.v) : isPartS y = isPartS z := by
  unfold Ex.v at h
  simp only [V.agg.injEq, List.cons.injEq, V.d.injEq, D.int.injEq, D.str.injEq, D.sl.injEq, true_and, and_true] at h
  obtain ⟨h1, h2, h3, h4, h5, h6⟩ := h
  have h5 := congrArg List.length h5
  simp at h5
  unfold isPartS
  rw [h1, h2, h3, h4, h5]
/-- Whether an expression has its shape: 0; else 20. -/
def checkS (x : Ex) : Int := bif x.pre.all isPartS then 0 else 20
theorem checkExpr_c [Amb] (x : Ex) (hx : x.fits) : PFun Try.prog 54 [x.v] [] (iv (checkS x)) [] := by
  refine fn_sem pok 10 0 Try.func54 (by kernel_rfl) rfl rfl rfl rfl ?_
  refine SWp.go pok (by kernel_rfl) ?_
  refine PFun.call (all_c x) ?_
  refine SWp.range 85 [.ptr 2 0] rfl rfl (by decide) (lastOr isPartS .normal .ret) (lastOr_nil _ _) (fun xs => ∃ zs y, y ∈ x.pre ∧ xs = zs ++ [[y.v]])
    (fun xs a ⟨zs, y, _, e⟩ => by have := (List.append_inj' e rfl).2; injection this with this; rw [this]; rfl)
    (lastOr isPartS [.box x.cells, .box [iv 0], .dead] [.box x.cells, .box [iv 20], .dead]) (fun xs => by rw [lastOr_map List.length]; rcases lastOr_cases isPartS 3 3 xs with h | h <;> exact h.1)
    (fun xs => lastOr isPartS 0 20 xs = checkS x) (fun l xs a hok hfin => ?_) ?_ (fun xs hz => ?_)
  · obtain ⟨zs, y, hy, e⟩ := hok
    obtain ⟨e1, e2⟩ := List.append_inj' e rfl
    injection e2 with e2
    subst e1; subst e2
    have hf := hx.2 y hy
    have hst : ∀ {β : Type} (a b : β), lastOr isPartS a b xs = a := by
      rcases lastOr_cases isPartS PX.normal PX.ret xs with h | h
      · exact h.2
      · rw [h.1] at hfin; cases hfin
    unfold roundQ
    rw [hst, lastOr_snoc isPartS_v, lastOr_snoc isPartS_v]
    refine SWp.go pok (by kernel_rfl) ?_
    refine SWp.go pok (by kernel_rfl) ?_
    refine PFun.call (isPart_c y hf.1 hf.2.1 hf.2.2) ?_
    refine brP_split (fun h => ?_) (fun h => ?_)
    · have h : isPartS y = false := by simpa using h
      exact ⟨by rw [h]; rfl, .inr ⟨[0, 1, 2], ⟨rfl, rfl⟩, by rw [h]; rfl, trivial⟩⟩
    · have h : isPartS y = true := by simpa using h
      exact ⟨by rw [h]; rfl, .inr ⟨[0, 1, 2], ⟨rfl, rfl⟩, by rw [h]; rfl, trivial⟩⟩
  · refine ⟨lastOr_nil _ _, rfl, fun A' hgo hok => ?_⟩
    refine PCalls.mono (@all1_c A' x hx.1 (fun zs y hy => by rw [hok]; exact ⟨rfl, zs, y, hy, rfl⟩)) ?_
    rintro r h' ⟨_, rfl⟩
    refine ⟨_, [.box x.cells], rfl, rfl, ?_⟩
    have sp := @runY_spec A' isPartS x.pre [] (fun zs y hy => by
      rw [hgo]
      show (lastOr isPartS PX.normal PX.ret (zs ++ [[y.v]])).goes = _
      rw [lastOr_snoc isPartS_v]; cases isPartS y <;> rfl)
    unfold checkS
    cases hall : x.pre.all isPartS with
    | true =>
      rw [sp.1 hall]
      show lastOr isPartS 0 20 ([] ++ x.pre.map fun y => [y.v]) = 0
      rcases List.eq_nil_or_concat x.pre with h | ⟨l, z, h⟩
      · rw [h]; exact lastOr_nil _ _
      · rw [h, List.concat_eq_append] at hall ⊢
        rw [List.map_append, ← List.append_assoc]
        rw [List.map_cons, List.map_nil, lastOr_snoc isPartS_v]
        have : isPartS z = true := by rw [List.all_append] at hall; simp at hall; exact hall.2
        rw [this]; rfl
    | false =>
      obtain ⟨zs, z, _, h2, h3⟩ := sp.2 hall
      rw [h3]
      show lastOr isPartS 0 20 (zs ++ [[z.v]]) = 20
      rw [lastOr_snoc isPartS_v, h2]; rfl
  · rcases lastOr_cases isPartS PX.normal PX.ret xs with h | h
    · rw [h.1, h.2]
      rw [h.2] at hz
      exact fin1 (dint hz)
    · rw [h.1, h.2]
      rw [h.2] at hz
      exact fin1 (dint hz)
end Go.Proofs.Ytlafnhpmhflnaaa.Q

namespace Go.Proofs.Ytlafnhpmhflnaaa.Q
open Go.RowKit
/-- A program that fits into memory. -/
def Pg.fits (p : Pg) : Prop := p.mons.length < 1073741824 ∧ nVars p.mons < 1073741824
/-- The checker of a program, with the first error and its place. -/
def chkB (p : Pg) (s : Int × Int) : Ob := .box [.d (.sl (p.mons.map Mo.c)), .d (.sl (p.roles.map Ro.c)), .d (.sl ((slotsS p.mons).map Vr.c)), iv s.1, iv s.2]
def failS (s : Int × Int) (e pl : Int) : Int × Int := if s.1 = 0 then (e, pl) else s
def sortL : List (Int × Int) := [(0, 0), (2, 0), (1, 0), (1, 0), (0, 0), (1, 1), (2, 2), (2, 2), (2, 2), (2, 2), (1, 0), (1, 0), (1, 2), (1, 2), (1, 2), (1, 2), (1, 1), (1, 1)]
/-- What an expression of a kind is, and what its parts must be. -/
def sortS (op : Int) : Int × Int := sortL.getD op.toNat (0, 0)
/-- What a variable is. -/
def varS (p : Pg) (mon name : Str) : Int × Bool :=
  if (slotS p mon name).2 = true then match (slotsS p.mons)[(slotS p mon name).1.toNat]? with
    | some v => (if v.type = 1 then 1 else 2, true)
    | none => (0, false)
  else (0, false)
theorem slotS_lt [Amb] {p : Pg} {mon name : Str} (h : (slotS p mon name).2 = true) : 0 ≤ (slotS p mon name).1 ∧ (slotS p mon name).1 < nVars p.mons := by
  unfold slotS at h ⊢
  by_cases h1 : (monS p mon).2 = true
  · rw [if_pos h1] at h ⊢
    cases hm : p.mons[(monS p mon).1.toNat]? with
    | none => rw [hm] at h; cases h
    | some m =>
      rw [hm] at h
      dsimp only at h ⊢
      by_cases h2 : firstF (fun t : Vr => t.name == name) 0 m.vars < 0
      · rw [if_pos h2] at h; cases h
      · rw [if_neg h2]
        have hlt := lt_of_get hm
        have e := firstF_lt (fun t : Vr => t.name == name) m.vars 0
        have e1 := nVars_snoc hlt
        have e2 := nVars_le (l := p.mons) ((monS p mon).1.toNat + 1)
        have e3 : p.mons[(monS p mon).1.toNat] = m := by rw [List.getElem?_eq_getElem hlt] at hm; injection hm
        rw [e3] at e1
        simp only
        omega
  · rw [if_neg h1] at h; cases h
variable [Amb]
theorem fail_c (p : Pg) (s : Int × Int) (e pl : Int) : PFun Try.prog 70 [.ptr 0 0, iv e, iv pl] [chkB p s] (.tup []) [chkB p (failS s e pl)] := by
  refine fn_sem pok 19 1 Try.func70 (by kernel_rfl) rfl rfl rfl rfl ?_
  refine SWp.go pok (by kernel_rfl) ?_
  refine brP_split (fun h => ?_) (fun h => ?_)
  · have h : s.1 = 0 := by simpa using h
    exact ⟨rfl, by unfold failS; rw [if_pos h]; rfl⟩
  · have h : ¬ s.1 = 0 := by simpa using h
    exact ⟨rfl, by unfold failS; rw [if_neg h]; rfl⟩
theorem sortOf_c (op : Int) (h0 : 0 ≤ op) (h1 : op < 18) : PFun Try.prog 71 [iv op] [] (.agg [iv (sortS op).1, iv (sortS op).2]) [] := by
  refine fn_sem pok 24 0 Try.func71 (by kernel_rfl) rfl rfl rfl rfl ?_
  have : op = 0 ∨ op = 1 ∨ op = 2 ∨ op = 3 ∨ op = 4 ∨ op = 5 ∨ op = 6 ∨ op = 7 ∨ op = 8 ∨ op = 9 ∨ op = 10 ∨ op = 11 ∨ op = 12 ∨ op = 13 ∨ op = 14 ∨ op = 15 ∨ op = 16 ∨ op = 17 := by omega
  rcases this with rfl | rfl | rfl | rfl | rfl | rfl | rfl | rfl | rfl | rfl | rfl | rfl | rfl | rfl | rfl | rfl | rfl | rfl <;>
  · refine SWp.go pok (by kernel_rfl) ?_
    exact ⟨by decide, fin1 rfl⟩
theorem variable_c (p : Pg) (s : Int × Int) (mon name : Str) (hp : p.fits) : PFun Try.prog 69 [.ptr 0 0, sv' mon, sv' name] [chkB p s] (ib (varS p mon name)) [chkB p s] := by
  refine fn_sem pok 31 1 Try.func69 (by kernel_rfl) rfl rfl rfl rfl ?_
  refine SWp.go pok (by kernel_rfl) ?_
  refine PFun.call (namesSlot_c p mon name hp.1 hp.2) ?_
  refine brP_split (fun h => ?_) (fun h => ?_)
  · have h : ¬ (slotS p mon name).2 = true := by simpa using h
    exact ⟨by unfold varS; rw [if_neg h]; rfl, rfl⟩
  · have h : (slotS p mon name).2 = true := by simpa using h
    have hl := slotS_lt h
    rw [← slotsS_len] at hl
    obtain ⟨i, hi⟩ := Int.eq_ofNat_of_zero_le hl.1
    have hil : i < (slotsS p.mons).length := by omega
    have hv : varS p mon name = (if (slotsS p.mons)[i].type = 1 then 1 else 2, true) := by
      unfold varS; rw [if_pos h, hi]; simp [hil]
    refine PIdx.map' hi (get_at hil) ?_
    refine brP_split (fun h2 => ?_) (fun h2 => ?_)
    · have h2 : (slotsS p.mons)[i].type = 1 := by simpa using h2
      exact ⟨by rw [hv, if_pos h2]; rfl, rfl⟩
    · have h2 : ¬ (slotsS p.mons)[i].type = 1 := by simpa using h2
      exact ⟨by rw [hv, if_neg h2]; rfl, rfl⟩
theorem newChecker_c (p : Pg) (hp : p.fits) : PFun Try.prog 55 [p.v] [] (.ptr 0 0) [chkB p (0, 0)] := by
  refine fn_sem pok 8 0 Try.func55 (by kernel_rfl) rfl rfl rfl rfl ?_
  refine SWp.go pok (by kernel_rfl) ?_
  refine ⟨_, _, namesSlots_c p hp.1 hp.2, ?_⟩
  exact ⟨rfl, rfl⟩
end Go.Proofs.Ytlafnhpmhflnaaa.Q

namespace Go.Proofs.Ytlafnhpmhflnaaa.Q
open Go.RowKit
/-- The parts' types are looked at: what they must be; the first error. -/
def lookS (q : Int × (Int × Int)) (t pl : Int) : Int × (Int × Int) := (if q.1 = 0 then t else q.1, if t = (if q.1 = 0 then t else q.1) then q.2 else failS q.2 70 pl)
def looksS : Int × (Int × Int) → List Int → List Ex → Int × (Int × Int)
  | q, t :: ts, x :: xs => looksS (lookS q t x.pl) ts xs
  | q, _, _ => q
mutual
/-- What an expression is; the first error. -/
def Ex.ty (p : Pg) : Ex → Int × Int → Int × (Int × Int)
  | ⟨op, mon, name, n, kids, pl⟩, s =>
    if op = 4 then ((varS p mon name).1, if (varS p mon name).2 = true then s else failS s 61 pl)
    else ((sortS op).1, (looksS ((sortS op).2, (Ex.tys p kids s).2) (Ex.tys p kids s).1 kids).2)
def Ex.tys (p : Pg) : List Ex → Int × Int → List Int × (Int × Int)
  | [], s => ([], s)
  | x :: r, s => ((x.ty p s).1 :: (Ex.tys p r (x.ty p s).2).1, (Ex.tys p r (x.ty p s).2).2)
end
theorem Ex.ty_var {p : Pg} {x : Ex} {s : Int × Int} (h : x.op = 4) : x.ty p s = ((varS p x.mon x.name).1, if (varS p x.mon x.name).2 = true then s else failS s 61 x.pl) := by
  cases x; simp only at h; rw [Ex.ty, if_pos h]
theorem Ex.ty_not {p : Pg} {x : Ex} {s : Int × Int} (h : ¬ x.op = 4) : x.ty p s = ((sortS x.op).1, (looksS ((sortS x.op).2, (Ex.tys p x.kids s).2) (Ex.tys p x.kids s).1 x.kids).2) := by
  cases x; simp only at h; rw [Ex.ty, if_neg h]
theorem Ex.tys_len (p : Pg) : ∀ (l : List Ex) (s : Int × Int), (Ex.tys p l s).1.length = l.length
  | [], s => by simp [Ex.tys]
  | x :: r, s => by rw [Ex.tys]; simp [Ex.tys_len p r]
theorem Ex.tys_append (p : Pg) : ∀ (a b : List Ex) (s : Int × Int), Ex.tys p (a ++ b) s = ((Ex.tys p a s).1 ++ (Ex.tys p b (Ex.tys p a s).2).1, (Ex.tys p b (Ex.tys p a s).2).2)
  | [], b, s => by simp [Ex.tys]
  | x :: r, b, s => by rw [List.cons_append, Ex.tys, Ex.tys, Ex.tys_append p r]; rfl
theorem Ex.tys_snoc (p : Pg) {l : List Ex} {k : Nat} (h : k < l.length) (s : Int × Int) : Ex.tys p (l.take (k + 1)) s = ((Ex.tys p (l.take k) s).1 ++ [(l[k].ty p (Ex.tys p (l.take k) s).2).1], (l[k].ty p (Ex.tys p (l.take k) s).2).2) := by
  have e : l.take (k + 1) = l.take k ++ [l[k]] := by rw [List.take_add_one, List.getElem?_eq_getElem h]; rfl
  rw [e, Ex.tys_append]; simp [Ex.tys]
def icell (t : Int) : List D := [.int .i64 t]
/-- Numbers that are there so far, in an array of n. -/
def partI (l : List Int) (n : Nat) : List (List D) := l.map icell ++ List.replicate (n - l.length) (icell 0)
theorem partI_at {l : List Int} {n : Nat} (h : l.length < n) : (partI l n)[l.length]? = some (icell 0) := by
  unfold partI; rw [List.getElem?_append_right (by simp), List.getElem?_replicate, if_pos (by simp; omega)]
theorem partI_set {l : List Int} {n : Nat} (h : l.length < n) (t : Int) : (partI l n).set l.length (icell t) = partI (l ++ [t]) n := by
  unfold partI
  rw [List.set_append, if_neg (by simp)]
  have e1 : l.length - (l.map icell).length = 0 := by simp
  rw [e1, show n - l.length = (n - (l ++ [t]).length) + 1 by simp; omega, List.replicate_succ, List.set_cons_zero, List.map_append, List.append_assoc]
  rfl
theorem partI_all {l : List Int} {n : Nat} (h : l.length = n) : partI l n = l.map icell := by
  unfold partI; rw [h, Nat.sub_self]; simp
theorem looksS_snoc : ∀ (ts : List Int) (xs : List Ex) (q : Int × (Int × Int)) (k : Nat) (h : k < ts.length) (h' : k < xs.length), looksS q (ts.take (k + 1)) (xs.take (k + 1)) = lookS (looksS q (ts.take k) (xs.take k)) ts[k] xs[k].pl
  | t :: ts, x :: xs, q, 0, h, h' => by simp [looksS]
  | t :: ts, x :: xs, q, k + 1, h, h' => by
    simp only [List.take_succ_cons, looksS, List.getElem_cons_succ]
    exact looksS_snoc ts xs _ k (by simpa using h) (by simpa using h')
variable [Amb]
theorem expr_c (p : Pg) (hp : p.fits) (N : Nat) : ∀ (x : Ex) (s : Int × Int), x.pre.length ≤ N → x.pre.length < 1073741824 → (∀ y ∈ x.pre, 0 ≤ y.op ∧ y.op < 18) →
    PFun Try.prog 56 [.ptr 0 0, x.v] [chkB p s] (iv (x.ty p s).1) [chkB p (x.ty p s).2] := by
  induction N with
  | zero => intro x s h; have := x.pre_pos; omega
  | succ N ih =>
    intro x s hN hB hop
    have hkl := x.kids_len
    have hx := hop x (by rw [x.pre_eq]; exact List.mem_cons_self)
    refine fn_sem pok 81 1 Try.func56 (by kernel_rfl) rfl rfl rfl rfl ?_
    refine SWp.go pok (by kernel_rfl) ?_
    refine brP_split (fun h => ?_) (fun h => ?_)
    · have h : x.op = 4 := by simpa using h
      refine PFun.call (variable_c p s x.mon x.name hp) ?_
      refine brP_split (fun h2 => ?_) (fun h2 => ?_)
      · have h2 : ¬ (varS p x.mon x.name).2 = true := by simpa using h2
        refine PFun.call (fail_c p s 61 x.pl) ?_
        exact ⟨by rw [Ex.ty_var h], by rw [Ex.ty_var h, if_neg h2]; rfl⟩
      · have h2 : (varS p x.mon x.name).2 = true := by simpa using h2
        exact ⟨by rw [Ex.ty_var h], by rw [Ex.ty_var h, if_pos h2]; rfl⟩
    · have h : ¬ x.op = 4 := by simpa using h
      refine PFun.call (sortOf_c x.op hx.1 hx.2) ?_
      refine ⟨⟨by simp, by simp, by simp; omega⟩, rfl, ?_⟩
      refine SWp.loop (fun q : Nat × List (List D) × (Int × Int) => q.1 ≤ x.kids.length ∧ q.2.1 = partI (Ex.tys p (x.kids.take q.1) s).1 x.kids.length ∧ q.2.2 = (Ex.tys p (x.kids.take q.1) s).2)
        (fun q => ([(0, .ptr 0 0), (3, .ptr 1 0), (7, .ptr 2 0), (8, .arr 3 0 (x.kids.map Ex.e).length), (40, .d (.sl (x.kids.map Ex.e))), (41, iv (x.kids.map Ex.e).length), (42, iv q.1)], [chkB p q.2.2, .box x.cells, .box [iv (sortS x.op).1, iv (sortS x.op).2], .parr 1 q.2.1]))
        (fun q => x.kids.length - q.1) (0, List.replicate (x.kids.map Ex.e).length (icell 0), s) ⟨Nat.zero_le _, by simp [partI, Ex.tys], by simp [Ex.tys]⟩ (Le.same ⟨rfl, rfl, rfl, rfl, rfl, rfl, rfl, trivial⟩) (fun q hq => ?_)
      obtain ⟨k, rows, s1⟩ := q
      obtain ⟨hj, hs, hs1⟩ := hq
      simp only at hj hs hs1
      refine SWp.go pok (by kernel_rfl) ?_
      refine brP_split (fun h2 => ?_) (fun h2 => ?_)
      · have hlt : k < x.kids.length := by simpa using h2
        have hm := List.getElem_mem hlt
        have hlk := Ex.pre_kid hm
        have hsn := Ex.tys_snoc p hlt s
        have hln := Ex.tys_len p (x.kids.take k) s
        rw [← hs1] at hsn
        have hll : (Ex.tys p (x.kids.take k) s).1.length = k := by rw [hln]; simp; omega
        refine PIdx.ex hlt ?_
        refine PFun.call (ih x.kids[k] s1 (by omega) (by omega) (fun y hy => hop y (Ex.pre_sub hm hy))) ?_
        refine ⟨by simp; omega, ?_⟩
        refine ⟨icell 0, ?_, ?_⟩
        · show rows[0 + k]? = _
          rw [Nat.zero_add, hs]
          have := partI_at (l := (Ex.tys p (x.kids.take k) s).1) (n := x.kids.length) (by omega)
          rwa [hll] at this
        · exact ⟨(k + 1, rows.set (0 + k) (icell (x.kids[k].ty p s1).1), (x.kids[k].ty p s1).2), ⟨hlt, by
            rw [hsn, Nat.zero_add, hs]
            have := partI_set (l := (Ex.tys p (x.kids.take k) s).1) (n := x.kids.length) (by omega) (x.kids[k].ty p s1).1
            rwa [hll] at this, by rw [hsn]⟩, by show x.kids.length - (k + 1) < x.kids.length - k; omega, .inr ⟨[0, 1, 2, 3], ⟨rfl, rfl⟩, rfl, rfl, rfl, rfl, rfl, rfl, rfl, sint (wrap_nat k (by omega)), trivial⟩⟩
      · have hk : k = x.kids.length := by simp at h2; omega
        subst hk
        rw [List.take_length] at hs hs1
        obtain ⟨ts, hts⟩ : ∃ ts, (Ex.tys p x.kids s).1 = ts := ⟨_, rfl⟩
        have htl := Ex.tys_len p x.kids s
        rw [hts] at htl
        rw [hts, partI_all htl] at hs
        subst hs
        have hty : x.ty p s = ((sortS x.op).1, (looksS ((sortS x.op).2, s1) ts x.kids).2) := by rw [Ex.ty_not h, hts, ← hs1]
        refine SWp.loop (fun q : Nat × (Int × (Int × Int)) => q.1 ≤ x.kids.length ∧ q.2 = looksS ((sortS x.op).2, s1) (ts.take q.1) (x.kids.take q.1))
          (fun q => ([(0, .ptr 0 0), (3, .ptr 1 0), (7, .ptr 2 0), (54, .arr 3 0 (x.kids.map Ex.e).length), (55, iv (x.kids.map Ex.e).length), (56, iv q.1)], [chkB p q.2.2, .box x.cells, .box [iv (sortS x.op).1, iv q.2.1], .parr 1 (ts.map icell)]))
          (fun q => x.kids.length - q.1) (0, (sortS x.op).2, s1) ⟨Nat.zero_le _, by simp [looksS]⟩ (Le.same ⟨rfl, rfl, rfl, rfl, rfl, rfl, trivial⟩) (fun q hq => ?_)
        obtain ⟨k, pa, s2⟩ := q
        obtain ⟨hj, hq⟩ := hq
        simp only at hj hq
        refine SWp.go pok (by kernel_rfl) ?_
        refine brP_split (fun h3 => ?_) (fun h3 => ?_)
        · have hlt : k < x.kids.length := by simpa using h3
          have hlt2 : k < ts.length := by omega
          have hsn := looksS_snoc ts x.kids ((sortS x.op).2, s1) k hlt2 hlt
          rw [← hq] at hsn
          refine ⟨by simp; omega, ?_⟩
          refine ⟨icell ts[k], by simp [hlt2], ?_⟩
          refine brP_split (fun h4 => ?_) (fun h4 => ?_)
          · have h4 : pa = 0 := by simpa using h4
            have e : lookS (pa, s2) ts[k] x.kids[k].pl = (ts[k], s2) := by unfold lookS; rw [if_pos h4, if_pos rfl]
            rw [e] at hsn
            refine brP_false (by simp) ?_
            exact ⟨(k + 1, ts[k], s2), ⟨hlt, hsn.symm⟩, by show x.kids.length - (k + 1) < x.kids.length - k; omega, .inr ⟨[0, 1, 2, 3], ⟨rfl, rfl⟩, rfl, rfl, rfl, rfl, rfl, rfl, sint (wrap_nat k (by omega)), trivial⟩⟩
          · have h4 : ¬ pa = 0 := by simpa using h4
            refine brP_split (fun h5 => ?_) (fun h5 => ?_)
            · have h5 : ¬ ts[k] = pa := by simpa using h5
              have e : lookS (pa, s2) ts[k] x.kids[k].pl = (pa, failS s2 70 x.kids[k].pl) := by unfold lookS; simp only [if_neg h4, if_neg h5]
              rw [e] at hsn
              refine PIdx.ex hlt ?_
              refine PFun.call (fail_c p s2 70 x.kids[k].pl) ?_
              exact ⟨(k + 1, pa, failS s2 70 x.kids[k].pl), ⟨hlt, hsn.symm⟩, by show x.kids.length - (k + 1) < x.kids.length - k; omega, .inr ⟨[0, 1, 2, 3], ⟨rfl, rfl⟩, rfl, rfl, rfl, rfl, rfl, rfl, sint (wrap_nat k (by omega)), trivial⟩⟩
            · have h5 : ts[k] = pa := by simpa using h5
              have e : lookS (pa, s2) ts[k] x.kids[k].pl = (pa, s2) := by unfold lookS; simp only [if_neg h4, if_pos h5]
              rw [e] at hsn
              exact ⟨(k + 1, pa, s2), ⟨hlt, hsn.symm⟩, by show x.kids.length - (k + 1) < x.kids.length - k; omega, .inr ⟨[0, 1, 2, 3], ⟨rfl, rfl⟩, rfl, rfl, rfl, rfl, rfl, rfl, sint (wrap_nat k (by omega)), trivial⟩⟩
        · have hk : k = x.kids.length := by simp at h3; omega
          rw [hk, List.take_length, ← htl, List.take_length] at hq
          rw [← hq] at hty
          exact ⟨by rw [hty], by rw [hty]; rfl⟩
/-- What an expression is: a type, an error, and where. -/
def typeS (p : Pg) (x : Ex) : Int × Int × Int :=
  if checkS x = 0 then if (x.ty p (0, 0)).2.1 = 0 then ((x.ty p (0, 0)).1, 0, 0) else (0, (x.ty p (0, 0)).2.1, (x.ty p (0, 0)).2.2) else (0, checkS x, 0)
theorem partS_op {x : Ex} (h : isPartS x = true) : 0 ≤ x.op ∧ x.op < 18 := by
  unfold isPartS at h
  simp only [Bool.and_eq_true, beq_iff_eq] at h
  have h1 := h.1.1
  unfold partsS at h1
  split at h1
  · omega
  · split at h1
    · omega
    · omega
theorem checkS_ops {x : Ex} (h : checkS x = 0) : ∀ y ∈ x.pre, 0 ≤ y.op ∧ y.op < 18 := fun y hy => by
  unfold checkS at h
  cases ha : x.pre.all isPartS with
  | false => rw [ha] at h; cases h
  | true => exact partS_op (List.all_eq_true.1 ha y hy)
def v3 (q : Int × Int × Int) : V := .tup [iv q.1, iv q.2.1, iv q.2.2]
theorem type_c (p : Pg) (x : Ex) (hp : p.fits) (hx : x.fits) : PFun Try.prog 34 [p.v, x.v] [] (v3 (typeS p x)) [] := by
  refine fn_sem pok 34 0 Try.func34 (by kernel_rfl) rfl rfl rfl rfl ?_
  refine SWp.go pok (by kernel_rfl) ?_
  refine PFun.call (checkExpr_c x hx) ?_
  refine brP_split (fun h => ?_) (fun h => ?_)
  · have h : ¬ checkS x = 0 := by simpa using h
    exact fin1 (by unfold typeS; rw [if_neg h]; rfl)
  · have h : checkS x = 0 := by simpa using h
    refine PFun.call (newChecker_c p hp) ?_
    refine PFun.call (expr_c p hp _ x (0, 0) (Nat.le_refl _) hx.1 (checkS_ops h)) ?_
    refine brP_split (fun h2 => ?_) (fun h2 => ?_)
    · have h2 : ¬ (x.ty p (0, 0)).2.1 = 0 := by simpa using h2
      exact fin1 (by unfold typeS; rw [if_pos h, if_neg h2]; rfl)
    · have h2 : (x.ty p (0, 0)).2.1 = 0 := by simpa using h2
      exact fin1 (by unfold typeS; rw [if_pos h, if_pos h2]; rfl)
end Go.Proofs.Ytlafnhpmhflnaaa.Q

namespace Go.Proofs.Ytlafnhpmhflnaaa.Q
open Go.RowKit
variable [Amb]
theorem PIdx.ex' {l : List Ex} {k : Nat} {z : Int} {K : List D → Prop} (hz : z = k) (h : k < l.length) (c : K (Ex.row l[k])) : PIdx (l.map Ex.e) z K := by subst hz; exact PIdx.ex h c
/-- A sum out of the parts' sums. -/
def sumB (op : Int) (a : Ln) (b : Ln × Bool) : Ln × Bool :=
  if op = 8 then if b.2 = true then addL a b.1 else noLn else
  if op = 9 then if b.2 = true then if (scaleS b.1 (-1)).2 = true then addL a (scaleS b.1 (-1)).1 else noLn else noLn else noLn
def sumA (op n : Int) (a : Ln × Bool) (r : Option (Ln × Bool)) : Ln × Bool :=
  if a.2 = true then if op = 6 then scaleS a.1 (-1) else if op = 7 then scaleS a.1 n else match r with
    | none => noLn
    | some b => sumB op a.1 b
  else noLn
def sumK (op n i : Int) (l : List (Ln × Bool)) : Ln × Bool :=
  if op = 1 then (⟨n, []⟩, true) else if op = 4 then (⟨0, [⟨i, 1⟩]⟩, true) else match l[0]? with
    | none => noLn
    | some a => sumA op n a l[1]?
mutual
def Ex.sum (p : Pg) : Ex → Ln × Bool
  | ⟨op, mon, name, n, kids, pl⟩ => sumK op n (slotS p mon name).1 (Ex.sums p kids)
def Ex.sums (p : Pg) : List Ex → List (Ln × Bool)
  | [] => []
  | x :: r => x.sum p :: Ex.sums p r
end
theorem Ex.sums_map (p : Pg) : ∀ l : List Ex, Ex.sums p l = l.map (Ex.sum p)
  | [] => by simp [Ex.sums]
  | x :: r => by rw [Ex.sums, Ex.sums_map p r]; rfl
theorem Ex.sum_eq (p : Pg) (x : Ex) : x.sum p = sumK x.op x.n (slotS p x.mon x.name).1 (x.kids.map (Ex.sum p)) := by cases x; rw [Ex.sum, Ex.sums_map]
theorem sumK_num {op n i : Int} {l : List (Ln × Bool)} (h : op = 1) : sumK op n i l = (⟨n, []⟩, true) := by unfold sumK; rw [if_pos h]
theorem sumK_var {op n i : Int} {l : List (Ln × Bool)} (h : ¬ op = 1) (h' : op = 4) : sumK op n i l = (⟨0, [⟨i, 1⟩]⟩, true) := by unfold sumK; rw [if_neg h, if_pos h']
def Ex.nums (x : Ex) : Prop := ∀ y ∈ x.pre, R64 y.n
theorem Ex.nums_kid {x y : Ex} (h : x.nums) (k : y ∈ x.kids) : y.nums := fun z hz => h z (Ex.pre_sub k hz)
theorem slotS_r (p : Pg) (mon name : Str) (hp : p.fits) : R64 (slotS p mon name).1 := by
  by_cases h : (slotS p mon name).2 = true
  · have := slotS_lt h; have := hp.2; unfold R64; omega
  · have : (slotS p mon name).1 = 0 := by
      unfold slotS at h ⊢
      by_cases h1 : (monS p mon).2 = true
      · rw [if_pos h1] at h ⊢
        cases hm : p.mons[(monS p mon).1.toNat]? with
        | none => rfl
        | some m =>
          rw [hm] at h
          dsimp only at h ⊢
          by_cases h2 : firstF (fun t : Vr => t.name == name) 0 m.vars < 0
          · rw [if_pos h2]
          · rw [if_neg h2] at h; exact absurd rfl h
      · rw [if_neg h1]
    rw [this]; unfold R64; omega
theorem con_ok {t : Tm} {r : List Tm} (ht : t.ok) (hr : ∀ u ∈ r, u.ok) : ∀ u ∈ con t r, u.ok := fun u hu => by
  unfold con at hu
  split at hu
  · exact hr u hu
  · rcases List.mem_cons.1 hu with e | h
    · subst e; exact ht
    · exact hr u h
theorem addT_ok : ∀ (n : Nat) (x y r : List Tm), x.length + y.length < n → (∀ t ∈ x, t.ok) → (∀ t ∈ y, t.ok) → addT x y = some r → ∀ t ∈ r, t.ok
  | 0, x, y, r, hn, _, _, _ => by omega
  | _ + 1, [], [], r, _, _, _, h => by rw [addT] at h; injection h with h; subst h; simp
  | n + 1, [], u :: y, r, hn, hx, hy, h => by
    rw [addT_ny, Option.map_eq_some_iff] at h
    obtain ⟨q, h1, rfl⟩ := h
    exact con_ok (hy u (by simp)) (addT_ok n [] y q (by simp at hn ⊢; omega) hx (fun t ht => hy t (by simp [ht])) h1)
  | n + 1, t :: x, [], r, hn, hx, hy, h => by
    rw [addT_xn, Option.map_eq_some_iff] at h
    obtain ⟨q, h1, rfl⟩ := h
    exact con_ok (hx t (by simp)) (addT_ok n x [] q (by simp at hn ⊢; omega) (fun t ht => hx t (by simp [ht])) hy h1)
  | n + 1, t :: x, u :: y, r, hn, hx, hy, h => by
    have hx' : ∀ v ∈ x, v.ok := fun v hv => hx v (by simp [hv])
    have hy' : ∀ v ∈ y, v.ok := fun v hv => hy v (by simp [hv])
    by_cases c1 : t.var < u.var
    · rw [addT_lt x y c1, Option.map_eq_some_iff] at h
      obtain ⟨q, h1, rfl⟩ := h
      exact con_ok (hx t (by simp)) (addT_ok n x (u :: y) q (by simp at hn ⊢; omega) hx' hy h1)
    by_cases c2 : u.var < t.var
    · rw [addT_gt x y c2, Option.map_eq_some_iff] at h
      obtain ⟨q, h1, rfl⟩ := h
      exact con_ok (hy u (by simp)) (addT_ok n (t :: x) y q (by simp at hn ⊢; omega) hx hy' h1)
    by_cases c3 : (addS t.c u.c).2 = true
    · rw [addT_eq x y c1 c2 c3, Option.map_eq_some_iff] at h
      obtain ⟨q, h1, rfl⟩ := h
      exact con_ok ⟨(hx t (by simp)).1, addS_r _ _⟩ (addT_ok n x y q (by simp at hn ⊢; omega) hx' hy' h1)
    · rw [addT_no x y c1 c2 c3] at h; cases h
theorem addL_ok {a b : Ln} (ha : a.ok) (hb : b.ok) : (addL a b).1.ok := by
  unfold addL
  split
  · split
    · rename_i l hl
      split
      · exact ⟨addS_r _ _, addT_ok _ _ _ _ (Nat.lt_succ_self _) ha.2 hb.2 hl⟩
      · exact noLn_ok
    · exact noLn_ok
  · exact noLn_ok
theorem map_uncons {α β : Type} (f : α → β) : ∀ (l : List α) (h : 0 < l.length), l.map f = f l[0] :: (l.map f).tail
  | [], h => by simp at h
  | a :: l, h => rfl
theorem map_uncons2 {α β : Type} (f : α → β) : ∀ (l : List α) (h : 1 < l.length), ∃ r, (l.map f).tail = f l[1] :: r
  | [], h => by simp at h
  | [a], h => by simp at h
  | a :: b :: l, h => ⟨_, rfl⟩
theorem sum_ok (p : Pg) (hp : p.fits) (N : Nat) : ∀ (x : Ex), x.pre.length ≤ N → x.nums → (x.sum p).1.ok := by
  induction N with
  | zero => intro x h; have := x.pre_pos; omega
  | succ N ih =>
    intro x hN hx
    have hm : ∀ q ∈ x.kids.map (Ex.sum p), q.1.ok := fun q hq => by
      obtain ⟨y, hy, rfl⟩ := List.mem_map.1 hq
      exact ih y (by have := Ex.pre_kid hy; omega) (Ex.nums_kid hx hy)
    have hxn := hx x (by rw [x.pre_eq]; exact List.mem_cons_self)
    have hs := slotS_r p x.mon x.name hp
    rw [x.sum_eq]
    generalize x.kids.map (Ex.sum p) = l at hm
    have no := noLn_ok
    unfold sumK
    split
    · exact ⟨hxn, fun t ht => by simp at ht⟩
    split
    · exact ⟨(by unfold R64; decide : R64 (0 : Int)), fun t ht => by simp at ht; subst ht; exact ⟨hs, (by unfold R64; decide : R64 (1 : Int))⟩⟩
    split
    · exact no
    · rename_i a hq
      have ha := hm a (List.mem_of_getElem? hq)
      unfold sumA
      split
      · split
        · exact scaleS_ok ha
        split
        · exact scaleS_ok ha
        split
        · exact no
        · rename_i b hq2
          have hb := hm b (List.mem_of_getElem? hq2)
          unfold sumB
          split
          · split
            · exact addL_ok ha hb
            · exact no
          split
          · split
            · split
              · exact addL_ok ha (scaleS_ok hb)
              · exact no
            · exact no
          · exact no
      · exact no
theorem sum_c (p : Pg) (hp : p.fits) (N : Nat) : ∀ (x : Ex), x.pre.length ≤ N → x.pre.length < 1073741824 → x.nums → (∀ y ∈ x.pre, isPartS y = true) →
    PFun Try.prog 35 [p.v, x.v] [] (lb (x.sum p)) [] := by
  induction N with
  | zero => intro x h; have := x.pre_pos; omega
  | succ N ih =>
    intro x hN hB hx hpart
    have hkl := x.kids_len
    have hxp := hpart x (by rw [x.pre_eq]; exact List.mem_cons_self)
    have hxn := hx x (by rw [x.pre_eq]; exact List.mem_cons_self)
    have hkid : ∀ (k : Nat) (h : k < x.kids.length), PFun Try.prog 35 [p.v, x.kids[k].v] [] (lb (x.kids[k].sum p)) [] ∧ (x.kids[k].sum p).1.ok := fun k h => by
      have hm := List.getElem_mem h
      have hlk := Ex.pre_kid hm
      exact ⟨ih x.kids[k] (by omega) (by omega) (Ex.nums_kid hx hm) (fun y hy => hpart y (Ex.pre_sub hm hy)), sum_ok p hp _ _ (Nat.le_refl _) (Ex.nums_kid hx hm)⟩
    refine fn_sem pok 100 0 Try.func35 (by kernel_rfl) rfl rfl rfl rfl ?_
    refine SWp.go pok (by kernel_rfl) ?_
    refine brP_split (fun h => ?_) (fun h => ?_)
    · have h : x.op = 1 := by simpa using h
      exact fin1 (by rw [x.sum_eq, sumK_num h]; rfl)
    have h1 : ¬ x.op = 1 := by simpa using h
    refine brP_split (fun h => ?_) (fun h => ?_)
    · have h : x.op = 4 := by simpa using h
      refine PFun.call (namesSlot_c p x.mon x.name hp.1 hp.2) ?_
      exact fin1 (by rw [x.sum_eq, sumK_var h1 h]; rfl)
    have h4 : ¬ x.op = 4 := by simpa using h
    refine brP_split (fun h => ?_) (fun h => ?_)
    · have hk : x.kids = [] := by simpa using h
      exact fin1 (by rw [x.sum_eq, hk]; unfold sumK; rw [if_neg h1, if_neg h4]; rfl)
    have hk0 : 0 < x.kids.length := by
      have : x.kids ≠ [] := by simpa using h
      exact List.length_pos_iff.2 this
    have e0 : x.sum p = sumA x.op x.n (x.kids[0].sum p) (x.kids.map (Ex.sum p))[1]? := by
      rw [x.sum_eq]
      unfold sumK
      rw [if_neg h1, if_neg h4]
      simp [hk0]
    have a0 := (hkid 0 hk0).2
    refine PIdx.ex' rfl hk0 ?_
    refine ⟨_, _, (hkid 0 hk0).1, ?_⟩
    refine brP_split (fun h => ?_) (fun h => ?_)
    · have h : ¬ (x.kids[0].sum p).2 = true := by simpa using h
      exact fin1 (by rw [e0]; unfold sumA; rw [if_neg h]; rfl)
    have ha : (x.kids[0].sum p).2 = true := by simpa using h
    refine brP_split (fun h => ?_) (fun h => ?_)
    · have h : x.op = 6 := by simpa using h
      refine PFun.call (linScale_c _ (-1) a0 (by unfold R64; decide)) ?_
      exact fin1 (by rw [e0]; unfold sumA; rw [if_pos ha, if_pos h]; rfl)
    have h6 : ¬ x.op = 6 := by simpa using h
    refine brP_split (fun h => ?_) (fun h => ?_)
    · have h : x.op = 7 := by simpa using h
      refine PFun.call (linScale_c _ x.n a0 hxn) ?_
      exact fin1 (by rw [e0]; unfold sumA; rw [if_pos ha, if_neg h6, if_pos h]; rfl)
    have h7 : ¬ x.op = 7 := by simpa using h
    have hlen : ((x.kids.length : Int) == partsS x.op) = true := by
      unfold isPartS at hxp; simp only [Bool.and_eq_true] at hxp; exact hxp.1.1
    refine brP_split (fun h => ?_) (fun h => ?_)
    · have h : x.op = 8 := by simpa using h
      have hk1 : 1 < x.kids.length := by rw [h] at hlen; simp [partsS, partsL] at hlen; omega
      have e1 : (x.kids.map (Ex.sum p))[1]? = some (x.kids[1].sum p) := by simp [hk1]
      have b0 := (hkid 1 hk1).2
      have e2 : x.sum p = if (x.kids[1].sum p).2 = true then addL (x.kids[0].sum p).1 (x.kids[1].sum p).1 else noLn := by
        rw [e0, e1]; unfold sumA; rw [if_pos ha, if_neg h6, if_neg h7]
        show sumB _ _ _ = _
        unfold sumB; rw [if_pos h]
      refine PIdx.ex' rfl hk1 ?_
      refine ⟨_, _, (hkid 1 hk1).1, ?_⟩
      refine brP_split (fun h => ?_) (fun h => ?_)
      · have h : ¬ (x.kids[1].sum p).2 = true := by simpa using h
        exact fin1 (by rw [e2, if_neg h]; rfl)
      · have h : (x.kids[1].sum p).2 = true := by simpa using h
        refine PFun.call (linAdd_c _ _ a0 b0) ?_
        exact fin1 (by rw [e2, if_pos h]; rfl)
    have h8 : ¬ x.op = 8 := by simpa using h
    refine brP_split (fun h => ?_) (fun h => ?_)
    · have h : x.op = 9 := by simpa using h
      have hk1 : 1 < x.kids.length := by rw [h] at hlen; simp [partsS, partsL] at hlen; omega
      have e1 : (x.kids.map (Ex.sum p))[1]? = some (x.kids[1].sum p) := by simp [hk1]
      have b0 := (hkid 1 hk1).2
      have e2 : x.sum p = if (x.kids[1].sum p).2 = true then if (scaleS (x.kids[1].sum p).1 (-1)).2 = true then addL (x.kids[0].sum p).1 (scaleS (x.kids[1].sum p).1 (-1)).1 else noLn else noLn := by
        rw [e0, e1]; unfold sumA; rw [if_pos ha, if_neg h6, if_neg h7]
        show sumB _ _ _ = _
        unfold sumB; rw [if_neg h8, if_pos h]
      refine PIdx.ex' rfl hk1 ?_
      refine ⟨_, _, (hkid 1 hk1).1, ?_⟩
      refine brP_split (fun h => ?_) (fun h => ?_)
      · have h : (x.kids[1].sum p).2 = true := by simpa using h
        rw [if_pos h] at e2
        refine PFun.call (linScale_c _ (-1) b0 (by unfold R64; decide)) ?_
        refine brP_split (fun h => ?_) (fun h => ?_)
        · have h : ¬ (scaleS (x.kids[1].sum p).1 (-1)).2 = true := by simpa using h
          exact fin1 (by rw [e2, if_neg h]; rfl)
        · have h : (scaleS (x.kids[1].sum p).1 (-1)).2 = true := by simpa using h
          refine PFun.call (linAdd_c _ _ a0 (scaleS_ok b0)) ?_
          exact fin1 (by rw [e2, if_pos h]; rfl)
      · have h : ¬ (x.kids[1].sum p).2 = true := by simpa using h
        rw [if_neg h] at e2
        refine brP_true (by simp_all) ?_
        exact fin1 (by rw [e2]; rfl)
    have h9 : ¬ x.op = 9 := by simpa using h
    exact fin1 (by
      rw [e0]; unfold sumA; rw [if_pos ha, if_neg h6, if_neg h7]
      cases (x.kids.map (Ex.sum p))[1]? with
      | none => rfl
      | some b => show lb noLn = lb (sumB _ _ _); unfold sumB; rw [if_neg h8, if_neg h9])
def linOfS (p : Pg) (x : Ex) : Ln × Bool := if (typeS p x).2.1 = 0 ∧ (typeS p x).1 = 2 then x.sum p else noLn
theorem typeS_parts {p : Pg} {x : Ex} (h : (typeS p x).2.1 = 0) : ∀ y ∈ x.pre, isPartS y = true := fun y hy => by
  have hc : checkS x = 0 := by
    unfold typeS at h
    by_cases hc : checkS x = 0
    · exact hc
    · rw [if_neg hc] at h; exact absurd h hc
  unfold checkS at hc
  cases ha : x.pre.all isPartS with
  | false => rw [ha] at hc; cases hc
  | true => exact List.all_eq_true.1 ha y hy
theorem linOf_c (p : Pg) (x : Ex) (hp : p.fits) (hx : x.fits) (hn : x.nums) : PFun Try.prog 12 [p.v, x.v] [] (lb (linOfS p x)) [] := by
  refine fn_sem pok 28 0 Try.func12 (by kernel_rfl) rfl rfl rfl rfl ?_
  refine SWp.go pok (by kernel_rfl) ?_
  refine PFun.call (type_c p x hp hx) ?_
  refine brP_split (fun h => ?_) (fun h => ?_)
  · have h : ¬ (typeS p x).2.1 = 0 := by simpa using h
    exact fin1 (by unfold linOfS; rw [if_neg (fun h' => h h'.1)]; rfl)
  have h0 : (typeS p x).2.1 = 0 := by simpa using h
  refine brP_split (fun h => ?_) (fun h => ?_)
  · have h : ¬ (typeS p x).1 = 2 := by simpa using h
    exact fin1 (by unfold linOfS; rw [if_neg (fun h' => h h'.2)]; rfl)
  have h2 : (typeS p x).1 = 2 := by simpa using h
  refine PFun.call (sum_c p hp _ x (Nat.le_refl _) hx.1 hn (typeS_parts h0)) ?_
  exact fin1 (by unfold linOfS; rw [if_pos ⟨h0, h2⟩]; rfl)
end Go.Proofs.Ytlafnhpmhflnaaa.Q
