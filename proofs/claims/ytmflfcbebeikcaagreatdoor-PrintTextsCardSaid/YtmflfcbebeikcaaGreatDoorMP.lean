/- Programs' shape, depth and text in the reference; the law of texts. No condition. -/
import Derived.Test.YtmflfcbebeikcaaGreatDoorMH
import Derived.Test.YtmflfcbebeikcaaGreatDoorME
import Derived.Test.YtmflfcbebeikcaaGreatDoorMG
import Derived.Test.YtmflfcbebeikcaaGreatDoorMV
import Derived.Test.YtmflfcbebeikcaaGreatDoorMI
import Derived.Test.YtmflfcbebeikcaaGreatDoorMJ
set_option linter.unusedVariables false
set_option linter.unusedSectionVars false
set_option linter.unnecessarySimpa false
set_option linter.unusedSimpArgs false
set_option maxRecDepth 100000
set_option maxHeartbeats 4000000
namespace Go.Proofs.YtmflfcbebeikcaaGreatDoor.Q
open Go.RowKit
variable [Amb]
def fmRow (f : Fo) : List (List D) := [[.bool f.mon], [.bool f.name], [.bool f.num], [.bool f.ex]]
theorem refForm_c (k : Int) : PFun Tryz.prog 92 [iv k] [] (.tup [.d (.sl (if isKind k = true then fmRow (formS k) else [])), iv (formS k).fewest, iv (formS k).most, .d (.bool (isKind k))]) [] := by
  refine fn_sem pok 38 0 Tryz.func92 (by kernel_rfl) rfl rfl rfl rfl ?_
  by_cases h0 : k < 1 ∨ 11 < k
  · have e1 : formS k = fo0 := by unfold formS; rw [if_neg (by omega)]
    have e2 : isKind k = false := by unfold isKind; simp; omega
    rw [e1, e2, if_neg (by decide)]
    refine SWp.go pok (by kernel_rfl) ?_
    repeat refine brP_false (by simp; omega) ?_
    exact ⟨rfl, rfl⟩
  · have : k = 1 ∨ k = 2 ∨ k = 3 ∨ k = 4 ∨ k = 5 ∨ k = 6 ∨ k = 7 ∨ k = 8 ∨ k = 9 ∨ k = 10 ∨ k = 11 := by omega
    rcases this with rfl | rfl | rfl | rfl | rfl | rfl | rfl | rfl | rfl | rfl | rfl
    all_goals
      refine SWp.go pok (by kernel_rfl) ?_
      exact ⟨rfl, rfl⟩
theorem refEmpty_c (e : Ex) : PFun Tryz.prog 94 [e.v] [] (.d (.bool (isNoneS e))) [] := by
  refine fn_sem pok 27 0 Tryz.func94 (by kernel_rfl) rfl rfl rfl rfl ?_
  refine SWp.go pok (by kernel_rfl) ?_
  unfold isNoneS
  repeat' (refine brP_split (fun h => ?_) (fun h => ?_))
  all_goals
    refine fin1 (dbool ?_)
    simp_all
theorem minI_least (a b c : Int) (ha : R64 a) (hb : R64 b) (hc : R64 c) : (minI a [b, c] == -9223372036854775808) = (a == -9223372036854775808 || b == -9223372036854775808 || c == -9223372036854775808) := by
  unfold R64 at *
  rw [Bool.eq_iff_iff]
  simp only [minI, beq_iff_eq, Bool.or_eq_true]
  repeat' split
  all_goals omega
theorem refIsVar_c (v : Vr) (hn : v.name.length < 1073741824) (h1 : R64 v.lo) (h2 : R64 v.hi) (h3 : R64 v.init) : PFun Tryz.prog 54 [v.v] [] (.d (.bool v.ok)) [] := by
  have hmin := minI_least v.lo v.hi v.init h1 h2 h3
  unfold Vr.ok
  rw [hmin]
  refine fn_sem pok 68 0 Tryz.func54 (by kernel_rfl) rfl rfl rfl rfl ?_
  refine SWp.go pok (by kernel_rfl) ?_
  refine PFun.call (refName_c v.name hn) ?_
  cases hnm : isName v.name with
  | false => exact fin1 (dbool (by simp))
  | true =>
  refine brP_split (fun h => ?_) (fun h => ?_)
  · exact fin1 (dbool (by simp [h]))
  refine brP_split (fun k => ?_) (fun k => ?_)
  · exact fin1 (dbool (by simp [h, k]))
  refine brP_split (fun l => ?_) (fun l => ?_)
  · exact fin1 (dbool (by simp [h, k, l]))
  rw [h, k, l]
  refine brP_split (fun t => ?_) (fun t => ?_)
  · have t : v.type = 1 := by simpa using t
    rw [if_pos t]
    repeat' (refine brP_split (fun h => ?_) (fun h => ?_))
    all_goals
      refine fin1 (dbool ?_)
      simp_all
  have t : ¬ v.type = 1 := by simpa using t
  rw [if_neg t]
  refine brP_split (fun t2 => ?_) (fun t2 => ?_)
  · have t2 : v.type = 2 := by simpa using t2
    rw [if_pos t2]
    repeat' (refine brP_split (fun h => ?_) (fun h => ?_))
    all_goals
      refine fin1 (dbool ?_)
      simp_all
  have t2 : ¬ v.type = 2 := by simpa using t2
  rw [if_neg t2]
  refine brP_split (fun t3 => ?_) (fun t3 => ?_)
  · have t3 : v.type = 3 := by simpa using t3
    rw [if_pos t3]
    refine brP_split (fun h => ?_) (fun h => ?_)
    · exact fin1 (dbool (by rw [h]; rfl))
    · exact fin1 (dbool (by rw [h]; rfl))
  · have t3 : ¬ v.type = 3 := by simpa using t3
    rw [if_neg t3]
    exact fin1 (dbool (by simp))
theorem blk_size {l : List St} {i k : Nat} (hi : i < l.length) (hk : k < l[i].blocks.length) : SizeOf.sizeOf l[i].blocks[k] < SizeOf.sizeOf l := by
  have h1 := List.sizeOf_lt_of_mem (List.getElem_mem hi)
  have h2 := List.sizeOf_lt_of_mem (List.getElem_mem hk)
  have h3 : SizeOf.sizeOf l[i].blocks < SizeOf.sizeOf l[i] := by
    generalize l[i] = s
    cases s
    simp
    omega
  omega
theorem okL_take {l : List St} {k : Nat} (h : k < l.length) : St.okL (l.take (k + 1)) = (St.okL (l.take k) && l[k].ok) := by
  rw [List.take_succ_eq_append_getElem h, St.okL_all, St.okL_all, List.all_append]; simp
theorem okB_take {l : List (List St)} {k : Nat} (h : k < l.length) : St.okB (l.take (k + 1)) = (St.okB (l.take k) && St.okL l[k]) := by
  rw [List.take_succ_eq_append_getElem h, St.okB_all, St.okB_all, List.all_append]; simp
theorem okL_no {l : List St} {k : Nat} (h : k < l.length) (hf : l[k].ok = false) : St.okL l = false := by
  rw [St.okL_all, ← Bool.not_eq_true]
  intro ha
  have := List.all_eq_true.1 ha l[k] (List.getElem_mem h)
  rw [hf] at this; cases this
theorem okB_no {l : List (List St)} {k : Nat} (h : k < l.length) (hf : St.okL l[k] = false) : St.okB l = false := by
  rw [St.okB_all, ← Bool.not_eq_true]
  intro ha
  have := List.all_eq_true.1 ha l[k] (List.getElem_mem h)
  rw [hf] at this; cases this
theorem PIdx.lit {α : Type} {l : List α} {z : Int} {x : α} {K : α → Prop} (i : Nat) (hz : z = (i : Int)) (h : l[i]? = some x) (k : K x) : PIdx l z K := by subst hz; exact PIdx.at h k
theorem form4 (k : Int) : ((formS k).mon = false ∧ (formS k).name = false ∧ (formS k).num = false) ∨ ((formS k).mon = true ∧ (formS k).name = true ∧ (formS k).num = false) ∨ ((formS k).mon = true ∧ (formS k).name = false ∧ (formS k).num = false) ∨ ((formS k).mon = true ∧ (formS k).name = false ∧ (formS k).num = true) := by
  by_cases h : 1 ≤ k ∧ k ≤ 11
  · have : k = 1 ∨ k = 2 ∨ k = 3 ∨ k = 4 ∨ k = 5 ∨ k = 6 ∨ k = 7 ∨ k = 8 ∨ k = 9 ∨ k = 10 ∨ k = 11 := by omega
    rcases this with rfl | rfl | rfl | rfl | rfl | rfl | rfl | rfl | rfl | rfl | rfl <;> decide
  · unfold formS; rw [if_neg h]; decide
theorem refIsStmts_c (N : Nat) : ∀ l : List St, SizeOf.sizeOf l ≤ N → BF l → PFun Tryz.prog 55 [.d (.sl (l.map St.c))] [] (.d (.bool (St.okL l))) [] := by
  induction N with
  | zero => intro l h; cases l <;> simp at h
  | succ N ih =>
    intro l hN hf
    have hl := hf.len
    refine fn_sem pok 135 0 Tryz.func55 (by kernel_rfl) rfl rfl rfl rfl ?_
    refine SWp.go pok (by kernel_rfl) ?_
    refine SWp.loop (fun i : Nat => i ≤ l.length ∧ St.okL (l.take i) = true) (fun i => ([(0, .d (.sl (l.map St.c))), (3, iv i)], [])) (fun i => l.length - i) 0 ⟨Nat.zero_le _, rfl⟩ (Le.same ⟨rfl, rfl, trivial⟩) (fun i hi => ?_)
    obtain ⟨hi, hk⟩ := hi
    refine SWp.then pok (by kernel_rfl) ?_
    refine brP_split (fun h => ?_) (fun h => ?_)
    rotate_left
    · have hge : i = l.length := by simp at h; omega
      subst hge
      rw [List.take_length] at hk
      exact fin1 (dbool hk.symm)
    have hlt : i < l.length := by simpa using h
    have hm := List.getElem_mem hlt
    have hsf := hf.fit _ hm
    have hno := fun hh => okL_no (l := l) hlt hh
    have hsz : SizeOf.sizeOf l[i] < SizeOf.sizeOf l := List.sizeOf_lt_of_mem hm
    have hbs := fun (k : Nat) (hk : k < l[i].blocks.length) => blk_size hlt hk
    have hyes : l[i].ok = true → St.okL (l.take (i + 1)) = true := fun h => by rw [okL_take hlt, hk, h]; rfl
    have hc := refForm_c l[i].kind
    refine SWp.seq (SWp.block ?_)
    refine SWp.then pok (by kernel_rfl) ?_
    refine St.inRow hlt ?_
    generalize l[i] = y at *
    obtain ⟨kind, mon, name, n, e, blocks, pl⟩ := y
    dsimp only at *
    rw [St.ok] at hno hyes
    cases hsf with
    | mk hmo hna he hb hbl kk =>
    refine SWp.then pok (by kernel_rfl) ?_
    have h4 := form4 kind
    generalize hF : formS kind = f at *
    obtain ⟨f1, f2, f3, f4, f5, f6⟩ := f
    unfold headOk at hno hyes
    rw [hF] at hno hyes
    unfold fmRow at hc
    dsimp only at hc hno hyes h4
    cases hK : isKind kind with
    | false =>
      rw [hK] at hc hno
      rw [if_neg (by decide)] at hc
      refine PFun.call hc ?_
      refine SWp.then pok (by kernel_rfl) ?_
      exact fin1 (dbool (hno (by simp)).symm)
    | true =>
    rw [hK] at hc hno hyes
    rw [if_pos rfl] at hc
    refine PFun.call hc ?_
    have hnil : isName [] = false := rfl
    by_cases hP : f5 ≤ (blocks.length : Int) ∧ (blocks.length : Int) ≤ f6 ∧ isNameW mon f1 = true ∧ isNameW name f2 = true ∧ 0 ≤ n ∧ ¬ (f3 = false ∧ n ≠ 0)
    rotate_left
    · have hz := hno (by
        apply Bool.and_eq_false_imp.2 <;> skip
        intro hx
        exfalso
        revert hx
        simp only [not_and, Decidable.not_not] at hP
        repeat' split
        all_goals simp_all <;> omega)
      unfold isNameW at hP
      clear hno hyes hbs ih kk hF
      refine SWp.then pok (by kernel_rfl) ?_
      rcases h4 with ⟨rfl, rfl, rfl⟩ | ⟨rfl, rfl, rfl⟩ | ⟨rfl, rfl, rfl⟩ | ⟨rfl, rfl, rfl⟩
      all_goals
        repeat' first
          | refine brP_split (fun h => ?_) (fun h => ?_)
          | refine ⟨_, _, refName_c mon hmo, ?_⟩
          | refine ⟨_, _, refName_c name hna, ?_⟩
          | refine PIdx.lit 0 rfl rfl ?_
          | refine PIdx.lit 1 rfl rfl ?_
          | refine PIdx.lit 2 rfl rfl ?_
      all_goals first
        | exact fin1 (dbool hz.symm)
        | (exfalso; simp_all; done)
        | (exfalso; simp_all; omega)
        | (exfalso; simp_all; omega)
    obtain ⟨p1, p2, p3, p4, p5, p6⟩ := hP
    rw [if_neg (by simp), if_neg (by omega), if_neg (by omega), if_neg (by simp [p3]), if_neg (by simp [p4]), if_neg (by omega), if_neg p6] at hno hyes
    refine SWp.cut pok [(0, .d (.sl (l.map St.c))), (3, iv i), (4, .ptr 0 0), (5, .d (.sl [[.bool f1], [.bool f2], [.bool f3], [.bool f4]]))] [.box [iv kind, sv' mon, sv' name, iv n, iv e.op, sv' e.mon, sv' e.name, iv e.n, .d (.sl (e.kids.map Ex.e)), iv e.pl, .d (.sl (blocks.map blk)), iv pl]] (by kernel_rfl) ?_ ?_
    · clear hno hyes hbs ih kk hF
      unfold isNameW at p3 p4
      rcases h4 with ⟨rfl, rfl, rfl⟩ | ⟨rfl, rfl, rfl⟩ | ⟨rfl, rfl, rfl⟩ | ⟨rfl, rfl, rfl⟩
      all_goals
        repeat' first
          | refine brP_split (fun h => ?_) (fun h => ?_)
          | refine ⟨_, _, refName_c mon hmo, ?_⟩
          | refine ⟨_, _, refName_c name hna, ?_⟩
          | refine PIdx.lit 0 rfl rfl ?_
          | refine PIdx.lit 1 rfl rfl ?_
          | refine PIdx.lit 2 rfl rfl ?_
      all_goals first
        | exact .inl ⟨⟨rfl, rfl, rfl, rfl, trivial⟩, rfl⟩
        | (exfalso; simp_all; done)
        | (exfalso; simp_all; omega)
    have hE := refIsExpr_c _ e (Nat.le_refl _) he
    have hch : (checkS e == 0) = e.pre.all isPartS := by unfold checkS; cases e.pre.all isPartS <;> rfl
    rw [hch] at hno hyes
    clear hch
    generalize e.pre.all isPartS = q at hE hno hyes
    cases hX : (if f4 = true then q else isNoneS e) with
    | false =>
      rw [hX] at hno
      have hz := hno rfl
      clear hno hyes hbs ih kk hF
      refine SWp.then pok (by kernel_rfl) ?_
      cases f4
      all_goals
        repeat' first
          | refine brP_split (fun h => ?_) (fun h => ?_)
          | refine PIdx.lit 3 rfl rfl ?_
          | refine PFun.call hE ?_
          | refine PFun.call (refEmpty_c e) ?_
      all_goals first
        | exact fin1 (dbool hz.symm)
        | (exfalso; simp_all; done)
    | true =>
    rw [hX, Bool.true_and] at hno hyes
    refine SWp.cut pok [(0, .d (.sl (l.map St.c))), (3, iv i), (4, .ptr 0 0)] [.box [iv kind, sv' mon, sv' name, iv n, iv e.op, sv' e.mon, sv' e.name, iv e.n, .d (.sl (e.kids.map Ex.e)), iv e.pl, .d (.sl (blocks.map blk)), iv pl]] (by kernel_rfl) ?_ ?_
    · clear hno hyes hbs ih kk hF
      cases f4
      all_goals
        repeat' first
          | refine brP_split (fun h => ?_) (fun h => ?_)
          | refine PIdx.lit 3 rfl rfl ?_
          | refine PFun.call hE ?_
          | refine PFun.call (refEmpty_c e) ?_
      all_goals first
        | exact .inl ⟨⟨rfl, rfl, rfl, trivial⟩, rfl⟩
        | (exfalso; simp_all; done)
    refine SWp.go pok (by kernel_rfl) ?_
    refine SWp.loop (fun k : Nat => k ≤ blocks.length ∧ St.okB (blocks.take k) = true) (fun k => ([(0, .d (.sl (l.map St.c))), (3, iv i), (4, .ptr 0 0), (9, iv k)], [.box [iv kind, sv' mon, sv' name, iv n, iv e.op, sv' e.mon, sv' e.name, iv e.n, .d (.sl (e.kids.map Ex.e)), iv e.pl, .d (.sl (blocks.map blk)), iv pl]])) (fun k => blocks.length - k) 0 ⟨Nat.zero_le _, rfl⟩ (Le.same ⟨rfl, rfl, rfl, rfl, trivial⟩) (fun k hk2 => ?_)
    obtain ⟨hkb, hk2⟩ := hk2
    refine SWp.go pok (by kernel_rfl) ?_
    refine brP_split (fun h => ?_) (fun h => ?_)
    · have hkl : k < blocks.length := by simpa using h
      have hm2 := List.getElem_mem hkl
      refine Bl.inRow hkl ?_
      refine PFun.call (ih blocks[k] (by have := hbs k hkl; omega) ⟨hbl _ hm2, kk _ hm2⟩) ?_
      refine brP_split (fun h3 => ?_) (fun h3 => ?_)
      · have h3 : St.okL blocks[k] = false := by simpa using h3
        exact fin1 (dbool (hno (okB_no hkl h3)).symm)
      · have h3 : St.okL blocks[k] = true := by simpa using h3
        exact ⟨k + 1, ⟨hkl, by rw [okB_take hkl, hk2, h3]; rfl⟩, by omega, Le.same ⟨rfl, rfl, rfl, sint (wrap_nat k (by omega)), trivial⟩⟩
    · have hge : k = blocks.length := by simp at h; omega
      subst hge
      rw [List.take_length] at hk2
      refine SWp.go pok (by kernel_rfl) ?_
      exact ⟨i + 1, ⟨hlt, hyes hk2⟩, by omega, .inr ⟨[], ⟨rfl, rfl⟩, rfl, rfl, sint (wrap_nat i (by omega)), trivial⟩⟩
end Go.Proofs.YtmflfcbebeikcaaGreatDoor.Q

namespace Go.Proofs.YtmflfcbebeikcaaGreatDoor.Q
open Go.RowKit
variable [Amb] [Pow]
/-! ### plain texts -/
def lnT (o : Nat) (s : Str) : Str := ind o ++ (s ++ [10])
/-- Blocks as the reference lays them. -/
def rB (bt : Str) (o : Nat) : List (List St) → Nat → Str
  | [], _ => []
  | b :: r, i => ((if i = 0 then [] else lnT o bt) ++ St.txL b (o + 1)) ++ rB bt o r (i + 1)
theorem rB_take (bt : Str) (o : Nat) : ∀ {l : List (List St)} {k : Nat} (i : Nat) (h : k < l.length), rB bt o (l.take (k + 1)) i = rB bt o (l.take k) i ++ ((if i + k = 0 then [] else lnT o bt) ++ St.txL l[k] (o + 1))
  | a :: r, 0, i, _ => by simp [rB]
  | a :: r, k + 1, i, h => by
    rw [List.take_succ_cons, List.take_succ_cons, rB, rB, rB_take bt o (i + 1) (by simpa using h), show i + 1 + k = i + (k + 1) by omega]; simp only [List.append_assoc, List.getElem_cons_succ]
theorem rB_le (bt : Str) (o : Nat) : ∀ (l : List (List St)) (k i : Nat), (rB bt o (l.take k) i).length ≤ (rB bt o l i).length
  | [], k, i => by simp
  | a :: r, 0, i => by simp [rB]
  | a :: r, k + 1, i => by
    rw [List.take_succ_cons, rB, rB]
    simp only [List.length_append]
    have := rB_le bt o r k (i + 1)
    omega
theorem rB_or (w : Str) (o : Nat) : ∀ (l : List (List St)) (i : Nat), rB ([125, 32] ++ (w ++ [32, 123])) o l (i + 1) ++ lnT o [125] = (ind o ++ [125]) ++ (orX l w o ++ [10])
  | [], i => by
    unfold rB orX lnT
    rw [St.txB]; simp
  | c :: r, i => by
    rw [rB, if_neg (by omega), orX_cons, List.append_assoc, rB_or w o r (i + 1)]
    unfold lnT blkX
    simp
/-- A head and its blocks. -/
theorem rB_all (H w : Str) (o : Nat) (b : List St) (r : List (List St)) (bt : Str) (hb : r ≠ [] → bt = [125, 32] ++ (w ++ [32, 123])) : (lnT o (H ++ [32, 123]) ++ rB bt o (b :: r) 0) ++ lnT o [125] = ind o ++ (H ++ (St.txB (b :: r) w o 0 ++ [10])) := by
  rw [txB_one]
  cases r with
  | nil =>
    unfold rB lnT blkX orX
    rw [rB, St.txB]
    simp
  | cons c r =>
    rw [hb (by simp), rB, if_pos rfl]
    have h := rB_or w o (c :: r) 0
    have e : rB ([125, 32] ++ (w ++ [32, 123])) o (c :: r) (0 + 1) ++ lnT o [125] = (ind o ++ [125]) ++ (orX (c :: r) w o ++ [10]) := h
    rw [List.nil_append]
    have e2 : (lnT o (H ++ [32, 123]) ++ (St.txL b (o + 1) ++ rB ([125, 32] ++ (w ++ [32, 123])) o (c :: r) (0 + 1))) ++ lnT o [125] = lnT o (H ++ [32, 123]) ++ (St.txL b (o + 1) ++ (rB ([125, 32] ++ (w ++ [32, 123])) o (c :: r) (0 + 1) ++ lnT o [125])) := by simp only [List.append_assoc]
    rw [e2, e]
    unfold lnT blkX
    simp
theorem txL_take {l : List St} {o k : Nat} (h : k < l.length) : St.txL (l.take (k + 1)) o = St.txL (l.take k) o ++ l[k].tx o := by
  rw [St.txL_cat, St.txL_cat, catS_take _ h]
theorem txL_le (l : List St) (o k : Nat) : (St.txL (l.take k) o).length ≤ (St.txL l o).length := by
  rw [St.txL_cat, St.txL_cat]; exact catS_le _ l k
theorem txL_mem {l : List St} {o : Nat} {y : St} (h : y ∈ l) : (y.tx o).length ≤ (St.txL l o).length := by
  induction l with
  | nil => simp at h
  | cons a r ih =>
    rw [St.txL, List.length_append]
    rcases List.mem_cons.1 h with rfl | h
    · omega
    · have := ih h; omega
theorem txB_mem {l : List (List St)} {w : Str} {o : Nat} {b : List St} (h : b ∈ l) : ∀ i, (St.txL b (o + 1)).length ≤ (St.txB l w o i).length := by
  induction l with
  | nil => simp at h
  | cons a r ih =>
    intro i
    rw [St.txB]
    simp only [List.length_append]
    rcases List.mem_cons.1 h with rfl | h
    · omega
    · have := ih h (i + 1); omega
/-! ### the walks -/
theorem refLine_c (o : Nat) (s : Str) (hl : 2 * o + s.length ≤ 281474976710656) : PFun Tryz.prog 27 [iv o, sv' s] [] (sv' (lnT o s)) [] := by
  refine fn_sem pok 18 0 Tryz.func27 (by kernel_rfl) rfl rfl rfl rfl ?_
  refine SWp.go pok (by kernel_rfl) ?_
  refine SWp.loop (fun k : Nat => k ≤ o) (fun k => ([(0, iv o), (1, sv' s), (5, sv' (ind k)), (6, iv k)], [])) (fun k => o - k) 0 (Nat.zero_le _) (Le.same ⟨rfl, rfl, rfl, rfl, trivial⟩) (fun k hk => ?_)
  have hik := ind_len k
  refine SWp.go pok (by kernel_rfl) ?_
  refine brP_split (fun h => ?_) (fun h => ?_)
  · have hlt : k < o := by simpa using h
    refine ⟨by show (ind k).length + 2 ≤ 4611686018427387904; omega, ?_⟩
    exact ⟨k + 1, hlt, by omega, Le.same ⟨rfl, rfl, rfl, sint (wrap_nat k (by omega)), trivial⟩⟩
  · have hge : k = o := by simp at h; omega
    subst hge
    refine ⟨by show (ind k).length + s.length ≤ 4611686018427387904; omega, ?_⟩
    refine ⟨by rw [List.length_append]; show (ind k).length + s.length + 1 ≤ 4611686018427387904; omega, ?_⟩
    exact fin1 (by unfold lnT; rw [List.append_assoc])
/-- A negative number's last digit, its rest. -/
theorem neg_digit : ∀ q : Fin 10, cutFrom (cutTo ([48, 49, 50, 51, 52, 53, 54, 55, 56, 57] : Str) (some ((q.val : Int) + 1))) (some (q.val : Int)) = [UInt8.ofNat (48 + q.val)] := by decide
theorem digitsN_c (n : Nat) (h0 : 0 < n) (hn : n < 9223372036854775808) : PFun Tryz.prog 30 [iv (-(n : Int))] [] (sv' (Lib.itoa (-(n : Int)))) [] := by
  have e0 : Lib.itoa (-(n : Int)) = 45 :: Lib.decDigits n := by unfold Lib.itoa; rw [if_pos (by omega)]; simp
  rw [e0]
  refine fn_sem pok 32 0 Tryz.func30 (by kernel_rfl) rfl rfl rfl rfl ?_
  refine SWp.go pok (by kernel_rfl) ?_
  refine brP_false (by simp; omega) ?_
  refine SWp.loop (fun x : Nat × Str => x.1 ≤ n ∧ (if x.1 = 0 then [] else Lib.decDigits x.1) ++ x.2 = Lib.decDigits n) (fun x => ([(0, iv (-(n : Int))), (3, sv' x.2), (4, sv' [48, 49, 50, 51, 52, 53, 54, 55, 56, 57]), (5, iv (-(x.1 : Int)))], [])) (fun x => x.1) (n, []) ⟨Nat.le_refl _, by rw [if_neg (by show ¬ n = 0; omega)]; simp⟩ (Le.same ⟨rfl, rfl, rfl, rfl, trivial⟩) (fun x hx => ?_)
  obtain ⟨m, s⟩ := x
  obtain ⟨hm, hs⟩ := hx
  dsimp only at hm hs
  refine SWp.go pok (by kernel_rfl) ?_
  refine brP_split (fun h2 => ?_) (fun h2 => ?_)
  · have h2 : 0 < m := by simp at h2; omega
    have ht : (-(m : Int)).tmod 10 = -((m % 10 : Nat) : Int) := by rw [Int.neg_tmod, Int.tmod_eq_emod_of_nonneg (by omega)]; omega
    have hq : (-(m : Int)).tdiv 10 = -((m / 10 : Nat) : Int) := by rw [Int.neg_tdiv, Int.tdiv_eq_ediv_of_nonneg (by omega)]; omega
    have hlt : m % 10 < 10 := Nat.mod_lt _ (by decide)
    have hsl : s.length ≤ n / 10 + 1 := by
      have := congrArg List.length hs
      rw [List.length_append] at this
      have := dec_len n
      omega
    have hgo : (if m / 10 = 0 then [] else Lib.decDigits (m / 10)) ++ (UInt8.ofNat (48 + m % 10) :: s) = Lib.decDigits n := by
      rw [← hs, if_neg (show ¬ m = 0 by omega), dec_step h2]
      simp
    refine ⟨by decide, ?_⟩
    by_cases hz : m % 10 = 0
    · have hk0 : (-(m : Int)).tmod 10 = 0 := by rw [ht, hz]; rfl
      have hcut : cutFrom (cutTo ([48, 49, 50, 51, 52, 53, 54, 55, 56, 57] : Str) (some (IntKind.i64.wrap ((-(m : Int)).tmod 10 + 1)))) (some ((-(m : Int)).tmod 10)) = [UInt8.ofNat (48 + m % 10)] := by
        rw [hk0, hz]; rfl
      refine brP_false (by rw [hk0]; rfl) ?_
      refine ⟨by rw [hk0]; show cutOk 10 (some 0) (some 1); unfold cutOk; decide, ?_⟩
      refine ⟨by rw [hcut]; show 1 + s.length ≤ 4611686018427387904; omega, ?_⟩
      refine ⟨by decide, ?_⟩
      exact ⟨(m / 10, UInt8.ofNat (48 + m % 10) :: s), ⟨by show m / 10 ≤ n; omega, hgo⟩, by show m / 10 < m; omega, Le.same ⟨rfl, sv (by rw [hcut]; rfl), rfl, sint (by rw [hq]; exact wrap_in (by unfold R64; omega)), trivial⟩⟩
    · have hneg : (-(m : Int)).tmod 10 < 0 := by rw [ht]; omega
      have hw0 : IntKind.i64.wrap (0 - (-(m : Int)).tmod 10) = ((m % 10 : Nat) : Int) := by rw [ht, wrap_in (by unfold R64; omega)]; omega
      have hw1 : IntKind.i64.wrap (IntKind.i64.wrap (0 - (-(m : Int)).tmod 10) + 1) = ((m % 10 : Nat) : Int) + 1 := by rw [hw0]; exact wrap_in (by unfold R64; omega)
      have hcut : cutFrom (cutTo ([48, 49, 50, 51, 52, 53, 54, 55, 56, 57] : Str) (some (IntKind.i64.wrap (IntKind.i64.wrap (0 - (-(m : Int)).tmod 10) + 1)))) (some (IntKind.i64.wrap (0 - (-(m : Int)).tmod 10))) = [UInt8.ofNat (48 + m % 10)] := by
        rw [hw1, hw0]; exact neg_digit ⟨m % 10, hlt⟩
      refine brP_true (by simpa using hneg) ?_
      refine ⟨by rw [hw1, hw0]; show cutOk 10 _ _; unfold cutOk; omega, ?_⟩
      refine ⟨by rw [hcut]; show 1 + s.length ≤ 4611686018427387904; omega, ?_⟩
      refine ⟨by decide, ?_⟩
      exact ⟨(m / 10, UInt8.ofNat (48 + m % 10) :: s), ⟨by show m / 10 ≤ n; omega, hgo⟩, by show m / 10 < m; omega, Le.same ⟨rfl, sv (by rw [hcut]; rfl), rfl, sint (by rw [hq]; exact wrap_in (by unfold R64; omega)), trivial⟩⟩
  · have h2 : m = 0 := by simp at h2; omega
    subst h2
    rw [if_pos rfl, List.nil_append] at hs
    subst hs
    have hdl := dec_len n
    refine brP_true (by simp; omega) ?_
    refine ⟨by show 1 + (Lib.decDigits n).length ≤ 4611686018427387904; omega, ?_⟩
    exact fin1 rfl
theorem digits_all {n : Int} (h : (R64 n ∧ n ≠ -9223372036854775808)) : PFun Tryz.prog 30 [iv n] [] (sv' (Lib.itoa n)) [] := by
  obtain ⟨h1, h2⟩ := h
  unfold R64 at h1
  by_cases h0 : n < 0
  · obtain ⟨k, rfl⟩ : ∃ k : Nat, n = -(k : Int) := ⟨n.natAbs, by omega⟩
    exact digitsN_c k (by omega) (by omega)
  · obtain ⟨k, rfl⟩ : ∃ k : Nat, n = k := ⟨n.toNat, by omega⟩
    exact digits_c k (by omega)
/-! ### statements -/
theorem refStmts_of (l : List St) (o : Nat) (hl : l.length < 1073741824) (h : ∀ y ∈ l, PFun Tryz.prog 56 [y.v, iv o] [] (sv' (y.tx o)) []) (hb : (St.txL l o).length ≤ room) :
    PFun Tryz.prog 29 [.d (.sl (l.map St.c)), iv o] [] (sv' (St.txL l o)) [] := by
  have hR : room = 140737488355328 := rfl
  refine fn_sem pok 22 0 Tryz.func29 (by kernel_rfl) rfl rfl rfl rfl ?_
  refine SWp.go pok (by kernel_rfl) ?_
  refine SWp.loop (fun k : Nat => k ≤ l.length) (fun k => ([(0, .d (.sl (l.map St.c))), (1, iv o), (5, sv' (St.txL (l.take k) o)), (6, iv k)], [])) (fun k => l.length - k) 0 (Nat.zero_le _) (Le.same ⟨rfl, rfl, by rw [List.take_zero, St.txL]; rfl, rfl, trivial⟩) (fun k hk => ?_)
  refine SWp.go pok (by kernel_rfl) ?_
  refine brP_split (fun h2 => ?_) (fun h2 => ?_)
  · have hlt : k < l.length := by simpa using h2
    have hm := List.getElem_mem hlt
    have e := txL_take (o := o) hlt
    have hle := txL_le l o (k + 1)
    rw [e, List.length_append] at hle
    refine St.inRow hlt ?_
    refine PFun.call (h l[k] hm) ?_
    refine ⟨by show (St.txL (l.take k) o).length + (l[k].tx o).length ≤ 4611686018427387904; omega, ?_⟩
    exact ⟨k + 1, hlt, by omega, Le.same ⟨rfl, rfl, sv (congrArg sv' e.symm), sint (wrap_nat k (by omega)), trivial⟩⟩
  · have hge : k = l.length := by simp at h2; omega
    subst hge
    rw [List.take_length]
    exact fin1 rfl
theorem tx_ge {y : St} (h : 1 ≤ y.kind ∧ y.kind ≤ 11) (o : Nat) : 2 * o ≤ (y.tx o).length := by
  obtain ⟨kind, mon, name, n, e, blocks, pl⟩ := y
  dsimp only at h
  rw [St.tx]
  have hc : kind = 1 ∨ kind = 2 ∨ kind = 3 ∨ kind = 4 ∨ kind = 5 ∨ kind = 6 ∨ kind = 7 ∨ kind = 8 ∨ kind = 9 ∨ kind = 10 ∨ kind = 11 := by omega
  unfold stK
  rcases hc with rfl | rfl | rfl | rfl | rfl | rfl | rfl | rfl | rfl | rfl | rfl
  all_goals (simp [ind_len] <;> omega)
theorem refStmt_c {y : St} (h : StP y) : StK y → ∀ o : Nat, (y.tx o).length ≤ room → PFun Tryz.prog 56 [y.v, iv o] [] (sv' (y.tx o)) [] := by
  induction h with
  | @mk kind mon name n e blocks pl hkk hn he2 he hb hl k ih =>
    intro hK o hlen
    have ho := tx_ge (y := ⟨kind, mon, name, n, e, blocks, pl⟩) hkk o
    cases hK with
    | mk hh _ ne nk =>
    have hR : room = 140737488355328 := rfl
    have hwo : IntKind.i64.wrap ((o : Int) + 1) = ((o + 1 : Nat) : Int) := wrap_nat o (by omega)
    have hsts : ∀ b ∈ blocks, (St.txL b (o + 1)).length ≤ room → PFun Tryz.prog 29 [.d (.sl (b.map St.c)), iv ((o + 1 : Nat) : Int)] [] (sv' (St.txL b (o + 1))) [] := fun b hb' hbl =>
      refStmts_of b (o + 1) (hl b hb') (fun z hz => ih b hb' z hz (nk b hb' z hz) (o + 1) (by have := txL_mem (o := o + 1) hz; omega)) hbl
    refine fn_sem pok 134 0 Tryz.func56 (by kernel_rfl) rfl rfl rfl rfl ?_
    have hc : kind = 1 ∨ kind = 2 ∨ kind = 3 ∨ kind = 4 ∨ kind = 5 ∨ kind = 6 ∨ kind = 7 ∨ kind = 8 ∨ kind = 9 ∨ kind = 10 ∨ kind = 11 := by omega
    rcases hc with rfl | rfl | rfl | rfl | rfl | rfl | rfl | rfl | rfl | rfl | rfl
    · have e1 : (St.mk 1 mon name n e blocks pl).tx o = lnT o [115, 107, 105, 112, 59] := by rw [St.tx]; rfl
      rw [e1]
      refine SWp.go pok (by kernel_rfl) ?_
      refine PFun.call (refLine_c o [115, 107, 105, 112, 59] (by simp; omega)) ?_
      exact fin1 rfl
    · have hpr : PrOk e := checkS_ok (hh.ex (by simp)) ne
      have e1 : (St.mk 2 mon name n e blocks pl).tx o = lnT o ((((((mon ++ [46]) ++ name) ++ [32, 61, 32]) ++ e.pr 1) ++ [59])) := by
        rw [St.tx]
        show (ind o ++ (mon ++ ([46] ++ (name ++ [32, 61, 32])))) ++ (e.pr 1 ++ [59, 10]) = _
        unfold lnT
        simp
      rw [e1] at hlen ⊢
      have hl2 := hlen
      unfold lnT at hl2
      simp only [List.length_append, List.length_cons, List.length_nil, ind_len] at hl2
      refine SWp.go pok (by kernel_rfl) ?_
      refine ⟨by show (mon).length + ([46]).length ≤ 4611686018427387904; simp only [List.length_append, List.length_cons, List.length_nil]; omega, ?_⟩
      refine ⟨by show ((mon ++ [46])).length + (name).length ≤ 4611686018427387904; simp only [List.length_append, List.length_cons, List.length_nil]; omega, ?_⟩
      refine ⟨by show (((mon ++ [46]) ++ name)).length + ([32, 61, 32]).length ≤ 4611686018427387904; simp only [List.length_append, List.length_cons, List.length_nil]; omega, ?_⟩
      refine ⟨_, _, rexpr_c _ e (Nat.le_refl _) hpr 1 (by omega), ?_⟩
      refine ⟨by show ((((mon ++ [46]) ++ name) ++ [32, 61, 32])).length + (e.pr 1).length ≤ 4611686018427387904; simp only [List.length_append, List.length_cons, List.length_nil]; omega, ?_⟩
      refine ⟨by show (((((mon ++ [46]) ++ name) ++ [32, 61, 32]) ++ e.pr 1)).length + ([59]).length ≤ 4611686018427387904; simp only [List.length_append, List.length_cons, List.length_nil]; omega, ?_⟩
      refine ⟨_, _, refLine_c o ((((((mon ++ [46]) ++ name) ++ [32, 61, 32]) ++ e.pr 1) ++ [59])) (by simp only [List.length_append, List.length_cons, List.length_nil]; omega), ?_⟩
      exact fin1 rfl
    · have hpr : PrOk e := checkS_ok (hh.ex (by simp)) ne
      have hop : e.op ≠ 0 := by have := hpr.op; omega
      have hex : exT e = [32] ++ e.pr 1 := by unfold exT; rw [if_neg hop]
      have hne : 0 < blocks.length := by have := hh.len3 rfl; omega
      have e1 : (St.mk 3 mon name n e blocks pl).tx o = (lnT o ((([105, 102, 32] ++ e.pr 1) ++ [32, 123])) ++ rB ([125, 32, 101, 108, 115, 101, 32, 123] : Str) o blocks 0) ++ lnT o [125] := by
        cases blocks with
        | nil => simp at hne
        | cons b r =>
        rw [St.tx]
        have e2 := rB_all (([105, 102, 32] ++ e.pr 1)) [101, 108, 115, 101] o b r ([125, 32, 101, 108, 115, 101, 32, 123] : Str) (fun _ => rfl)
        show (ind o ++ [105, 102]) ++ (exT e ++ (St.txB (b :: r) [101, 108, 115, 101] o 0 ++ [10])) = _
        rw [hex]
        refine Eq.trans ?_ e2.symm
        simp
      rw [e1] at hlen ⊢
      have hl2 := hlen
      simp only [List.length_append] at hl2
      have hl3 : (lnT o ((([105, 102, 32] ++ e.pr 1) ++ [32, 123]))).length = 2 * o + (((([105, 102, 32] ++ e.pr 1) ++ [32, 123])).length + 1) := by unfold lnT; rw [List.length_append, ind_len, List.length_append]; rfl
      rw [hl3] at hl2
      have hl4 : (lnT o ([125, 32, 101, 108, 115, 101, 32, 123] : Str)).length = 2 * o + ((([125, 32, 101, 108, 115, 101, 32, 123] : Str) : Str).length + 1) := by unfold lnT; rw [List.length_append, ind_len, List.length_append]; rfl
      have hl5 : (lnT o [125]).length = 2 * o + 2 := by unfold lnT; rw [List.length_append, ind_len]; rfl
      simp only [List.length_append, List.length_cons, List.length_nil, ind_len] at hl2
      refine SWp.go pok (by kernel_rfl) ?_
      refine PFun.call (rexpr_c _ e (Nat.le_refl _) hpr 1 (by omega)) ?_
      refine ⟨by show ([105, 102, 32]).length + (e.pr 1).length ≤ 4611686018427387904; simp only [List.length_append, List.length_cons, List.length_nil]; omega, ?_⟩
      refine ⟨by show (([105, 102, 32] ++ e.pr 1)).length + ([32, 123]).length ≤ 4611686018427387904; simp only [List.length_append, List.length_cons, List.length_nil]; omega, ?_⟩
      refine PFun.call (refLine_c o ((([105, 102, 32] ++ e.pr 1) ++ [32, 123])) (by simp only [List.length_append, List.length_cons, List.length_nil]; omega)) ?_
      refine SWp.loop (fun k : Nat => k ≤ blocks.length) (fun k => ([(1, iv o), (2, .ptr 0 0), (6, sv' ([125, 32, 101, 108, 115, 101, 32, 123] : Str)), (7, sv' (lnT o ((([105, 102, 32] ++ e.pr 1) ++ [32, 123])) ++ rB ([125, 32, 101, 108, 115, 101, 32, 123] : Str) o (blocks.take k) 0)), (8, iv k)], [.box [iv 3, sv' mon, sv' name, iv n, iv e.op, sv' e.mon, sv' e.name, iv e.n, .d (.sl (e.kids.map Ex.e)), iv e.pl, .d (.sl (blocks.map blk)), iv pl]])) (fun k => blocks.length - k) 0 (Nat.zero_le _) (Le.same ⟨rfl, rfl, rfl, sv (by rw [List.take_zero, rB, List.append_nil]), rfl, trivial⟩) (fun k hk => ?_)
      refine SWp.go pok (by kernel_rfl) ?_
      refine brP_split (fun h2 => ?_) (fun h2 => ?_)
      · have hlt : k < blocks.length := by simpa using h2
        have e2 := rB_take ([125, 32, 101, 108, 115, 101, 32, 123] : Str) o 0 hlt
        rw [Nat.zero_add] at e2
        have hle := rB_le ([125, 32, 101, 108, 115, 101, 32, 123] : Str) o blocks (k + 1) 0
        rw [e2, List.length_append, List.length_append] at hle
        have hm := List.getElem_mem hlt
        have c := hsts blocks[k] hm (by omega)
        rw [← hwo] at c
        refine brP_split (fun h0 => ?_) (fun h0 => ?_)
        · have h0 : 0 < k := by simpa using h0
          rw [if_neg (by omega)] at e2 hle
          refine PFun.call (refLine_c o ([125, 32, 101, 108, 115, 101, 32, 123] : Str) (by simp only [List.length_cons, List.length_nil]; omega)) ?_
          refine ⟨by show (lnT o ((([105, 102, 32] ++ e.pr 1) ++ [32, 123])) ++ rB ([125, 32, 101, 108, 115, 101, 32, 123] : Str) o (blocks.take k) 0).length + (lnT o ([125, 32, 101, 108, 115, 101, 32, 123] : Str)).length ≤ 4611686018427387904; rw [List.length_append, hl3]; simp only [List.length_append, List.length_cons, List.length_nil]; omega, ?_⟩
          refine Bl.inRow hlt ?_
          refine PFun.call c ?_
          refine ⟨by show (lnT o ((([105, 102, 32] ++ e.pr 1) ++ [32, 123])) ++ rB ([125, 32, 101, 108, 115, 101, 32, 123] : Str) o (blocks.take k) 0 ++ lnT o ([125, 32, 101, 108, 115, 101, 32, 123] : Str)).length + (St.txL blocks[k] (o + 1)).length ≤ 4611686018427387904; rw [List.length_append, List.length_append, hl3]; simp only [List.length_append, List.length_cons, List.length_nil]; omega, ?_⟩
          exact ⟨k + 1, hlt, by omega, Le.same ⟨rfl, rfl, rfl, sv (by rw [e2]; simp only [List.append_assoc]), sint (wrap_nat k (by omega)), trivial⟩⟩
        · have h0 : k = 0 := by simp at h0; omega
          subst h0
          rw [if_pos rfl] at e2 hle
          refine Bl.inRow hlt ?_
          refine PFun.call c ?_
          refine ⟨by show (lnT o ((([105, 102, 32] ++ e.pr 1) ++ [32, 123])) ++ rB ([125, 32, 101, 108, 115, 101, 32, 123] : Str) o (blocks.take 0) 0).length + (St.txL blocks[0] (o + 1)).length ≤ 4611686018427387904; rw [List.length_append, hl3]; simp only [List.length_append, List.length_cons, List.length_nil]; omega, ?_⟩
          exact ⟨1, hlt, by omega, Le.same ⟨rfl, rfl, rfl, sv (by rw [e2]; simp only [List.append_assoc, List.nil_append]), rfl, trivial⟩⟩
      · have hge : k = blocks.length := by simp at h2; omega
        subst hge
        rw [List.take_length]
        refine PFun.call (refLine_c o [125] (by simp only [List.length_cons, List.length_nil]; omega)) ?_
        refine ⟨by show (lnT o ((([105, 102, 32] ++ e.pr 1) ++ [32, 123])) ++ rB ([125, 32, 101, 108, 115, 101, 32, 123] : Str) o blocks 0).length + (lnT o [125]).length ≤ 4611686018427387904; rw [List.length_append, hl3]; simp only [List.length_append, List.length_cons, List.length_nil]; omega, ?_⟩
        exact fin1 rfl
    · have hpr : PrOk e := checkS_ok (hh.ex (by simp)) ne
      have hop : e.op ≠ 0 := by have := hpr.op; omega
      have hex : exT e = [32] ++ e.pr 1 := by unfold exT; rw [if_neg hop]
      have hne : 0 < blocks.length := by have := hh.len1 (by simp); omega
      have e1 : (St.mk 4 mon name n e blocks pl).tx o = (lnT o ((([119, 104, 105, 108, 101, 32] ++ e.pr 1) ++ [32, 123])) ++ rB ([] : Str) o blocks 0) ++ lnT o [125] := by
        cases blocks with
        | nil => simp at hne
        | cons b r =>
        rw [St.tx]
        have e2 := rB_all (([119, 104, 105, 108, 101, 32] ++ e.pr 1)) [] o b r ([] : Str) (fun hr => absurd (by have h1 : (b :: r).length = 1 := hh.len1 (by simp); exact List.eq_nil_of_length_eq_zero (by simpa using h1)) hr)
        show (ind o ++ [119, 104, 105, 108, 101]) ++ (exT e ++ (St.txB (b :: r) [] o 0 ++ [10])) = _
        rw [hex]
        refine Eq.trans ?_ e2.symm
        simp
      rw [e1] at hlen ⊢
      have hl2 := hlen
      simp only [List.length_append] at hl2
      have hl3 : (lnT o ((([119, 104, 105, 108, 101, 32] ++ e.pr 1) ++ [32, 123]))).length = 2 * o + (((([119, 104, 105, 108, 101, 32] ++ e.pr 1) ++ [32, 123])).length + 1) := by unfold lnT; rw [List.length_append, ind_len, List.length_append]; rfl
      rw [hl3] at hl2
      have hl4 : (lnT o ([] : Str)).length = 2 * o + ((([] : Str) : Str).length + 1) := by unfold lnT; rw [List.length_append, ind_len, List.length_append]; rfl
      have hl5 : (lnT o [125]).length = 2 * o + 2 := by unfold lnT; rw [List.length_append, ind_len]; rfl
      simp only [List.length_append, List.length_cons, List.length_nil, ind_len] at hl2
      refine SWp.go pok (by kernel_rfl) ?_
      refine PFun.call (rexpr_c _ e (Nat.le_refl _) hpr 1 (by omega)) ?_
      refine ⟨by show ([119, 104, 105, 108, 101, 32]).length + (e.pr 1).length ≤ 4611686018427387904; simp only [List.length_append, List.length_cons, List.length_nil]; omega, ?_⟩
      refine ⟨by show (([119, 104, 105, 108, 101, 32] ++ e.pr 1)).length + ([32, 123]).length ≤ 4611686018427387904; simp only [List.length_append, List.length_cons, List.length_nil]; omega, ?_⟩
      refine PFun.call (refLine_c o ((([119, 104, 105, 108, 101, 32] ++ e.pr 1) ++ [32, 123])) (by simp only [List.length_append, List.length_cons, List.length_nil]; omega)) ?_
      refine SWp.loop (fun k : Nat => k ≤ blocks.length) (fun k => ([(1, iv o), (2, .ptr 0 0), (6, sv' ([] : Str)), (7, sv' (lnT o ((([119, 104, 105, 108, 101, 32] ++ e.pr 1) ++ [32, 123])) ++ rB ([] : Str) o (blocks.take k) 0)), (8, iv k)], [.box [iv 4, sv' mon, sv' name, iv n, iv e.op, sv' e.mon, sv' e.name, iv e.n, .d (.sl (e.kids.map Ex.e)), iv e.pl, .d (.sl (blocks.map blk)), iv pl]])) (fun k => blocks.length - k) 0 (Nat.zero_le _) (Le.same ⟨rfl, rfl, rfl, sv (by rw [List.take_zero, rB, List.append_nil]), rfl, trivial⟩) (fun k hk => ?_)
      refine SWp.go pok (by kernel_rfl) ?_
      refine brP_split (fun h2 => ?_) (fun h2 => ?_)
      · have hlt : k < blocks.length := by simpa using h2
        have e2 := rB_take ([] : Str) o 0 hlt
        rw [Nat.zero_add] at e2
        have hle := rB_le ([] : Str) o blocks (k + 1) 0
        rw [e2, List.length_append, List.length_append] at hle
        have hm := List.getElem_mem hlt
        have c := hsts blocks[k] hm (by omega)
        rw [← hwo] at c
        refine brP_split (fun h0 => ?_) (fun h0 => ?_)
        · have h0 : 0 < k := by simpa using h0
          rw [if_neg (by omega)] at e2 hle
          refine PFun.call (refLine_c o ([] : Str) (by simp only [List.length_cons, List.length_nil]; omega)) ?_
          refine ⟨by show (lnT o ((([119, 104, 105, 108, 101, 32] ++ e.pr 1) ++ [32, 123])) ++ rB ([] : Str) o (blocks.take k) 0).length + (lnT o ([] : Str)).length ≤ 4611686018427387904; rw [List.length_append, hl3]; simp only [List.length_append, List.length_cons, List.length_nil]; omega, ?_⟩
          refine Bl.inRow hlt ?_
          refine PFun.call c ?_
          refine ⟨by show (lnT o ((([119, 104, 105, 108, 101, 32] ++ e.pr 1) ++ [32, 123])) ++ rB ([] : Str) o (blocks.take k) 0 ++ lnT o ([] : Str)).length + (St.txL blocks[k] (o + 1)).length ≤ 4611686018427387904; rw [List.length_append, List.length_append, hl3]; simp only [List.length_append, List.length_cons, List.length_nil]; omega, ?_⟩
          exact ⟨k + 1, hlt, by omega, Le.same ⟨rfl, rfl, rfl, sv (by rw [e2]; simp only [List.append_assoc]), sint (wrap_nat k (by omega)), trivial⟩⟩
        · have h0 : k = 0 := by simp at h0; omega
          subst h0
          rw [if_pos rfl] at e2 hle
          refine Bl.inRow hlt ?_
          refine PFun.call c ?_
          refine ⟨by show (lnT o ((([119, 104, 105, 108, 101, 32] ++ e.pr 1) ++ [32, 123])) ++ rB ([] : Str) o (blocks.take 0) 0).length + (St.txL blocks[0] (o + 1)).length ≤ 4611686018427387904; rw [List.length_append, hl3]; simp only [List.length_append, List.length_cons, List.length_nil]; omega, ?_⟩
          exact ⟨1, hlt, by omega, Le.same ⟨rfl, rfl, rfl, sv (by rw [e2]; simp only [List.append_assoc, List.nil_append]), rfl, trivial⟩⟩
      · have hge : k = blocks.length := by simp at h2; omega
        subst hge
        rw [List.take_length]
        refine PFun.call (refLine_c o [125] (by simp only [List.length_cons, List.length_nil]; omega)) ?_
        refine ⟨by show (lnT o ((([119, 104, 105, 108, 101, 32] ++ e.pr 1) ++ [32, 123])) ++ rB ([] : Str) o blocks 0).length + (lnT o [125]).length ≤ 4611686018427387904; rw [List.length_append, hl3]; simp only [List.length_append, List.length_cons, List.length_nil]; omega, ?_⟩
        exact fin1 rfl
    · have hop : e.op = 0 := (hh.ex' (by simp)).1
      have hex : exT e = [] := by unfold exT; rw [if_pos hop]
      have hne : 0 < blocks.length := by have := hh.len1 (by simp); omega
      have e1 : (St.mk 5 mon name n e blocks pl).tx o = (lnT o (([108, 111, 111, 112, 32, 123] : Str)) ++ rB ([] : Str) o blocks 0) ++ lnT o [125] := by
        cases blocks with
        | nil => simp at hne
        | cons b r =>
        rw [St.tx]
        have e2 := rB_all ([108, 111, 111, 112]) [] o b r ([] : Str) (fun hr => absurd (by have h1 : (b :: r).length = 1 := hh.len1 (by simp); exact List.eq_nil_of_length_eq_zero (by simpa using h1)) hr)
        show (ind o ++ [108, 111, 111, 112]) ++ (exT e ++ (St.txB (b :: r) [] o 0 ++ [10])) = _
        rw [hex]
        refine Eq.trans ?_ e2.symm
        simp
      rw [e1] at hlen ⊢
      have hl2 := hlen
      simp only [List.length_append] at hl2
      have hl3 : (lnT o (([108, 111, 111, 112, 32, 123] : Str))).length = 2 * o + ((([108, 111, 111, 112, 32, 123] : Str)).length + 1) := by unfold lnT; rw [List.length_append, ind_len, List.length_append]; rfl
      rw [hl3] at hl2
      have hl4 : (lnT o ([] : Str)).length = 2 * o + ((([] : Str) : Str).length + 1) := by unfold lnT; rw [List.length_append, ind_len, List.length_append]; rfl
      have hl5 : (lnT o [125]).length = 2 * o + 2 := by unfold lnT; rw [List.length_append, ind_len]; rfl
      simp only [List.length_append, List.length_cons, List.length_nil, ind_len] at hl2
      refine SWp.go pok (by kernel_rfl) ?_
      refine PFun.call (refLine_c o (([108, 111, 111, 112, 32, 123] : Str)) (by simp only [List.length_append, List.length_cons, List.length_nil]; omega)) ?_
      refine SWp.loop (fun k : Nat => k ≤ blocks.length) (fun k => ([(1, iv o), (2, .ptr 0 0), (6, sv' ([] : Str)), (7, sv' (lnT o (([108, 111, 111, 112, 32, 123] : Str)) ++ rB ([] : Str) o (blocks.take k) 0)), (8, iv k)], [.box [iv 5, sv' mon, sv' name, iv n, iv e.op, sv' e.mon, sv' e.name, iv e.n, .d (.sl (e.kids.map Ex.e)), iv e.pl, .d (.sl (blocks.map blk)), iv pl]])) (fun k => blocks.length - k) 0 (Nat.zero_le _) (Le.same ⟨rfl, rfl, rfl, sv (by rw [List.take_zero, rB, List.append_nil]), rfl, trivial⟩) (fun k hk => ?_)
      refine SWp.go pok (by kernel_rfl) ?_
      refine brP_split (fun h2 => ?_) (fun h2 => ?_)
      · have hlt : k < blocks.length := by simpa using h2
        have e2 := rB_take ([] : Str) o 0 hlt
        rw [Nat.zero_add] at e2
        have hle := rB_le ([] : Str) o blocks (k + 1) 0
        rw [e2, List.length_append, List.length_append] at hle
        have hm := List.getElem_mem hlt
        have c := hsts blocks[k] hm (by omega)
        rw [← hwo] at c
        refine brP_split (fun h0 => ?_) (fun h0 => ?_)
        · have h0 : 0 < k := by simpa using h0
          rw [if_neg (by omega)] at e2 hle
          refine PFun.call (refLine_c o ([] : Str) (by simp only [List.length_cons, List.length_nil]; omega)) ?_
          refine ⟨by show (lnT o (([108, 111, 111, 112, 32, 123] : Str)) ++ rB ([] : Str) o (blocks.take k) 0).length + (lnT o ([] : Str)).length ≤ 4611686018427387904; rw [List.length_append, hl3]; simp only [List.length_append, List.length_cons, List.length_nil]; omega, ?_⟩
          refine Bl.inRow hlt ?_
          refine PFun.call c ?_
          refine ⟨by show (lnT o (([108, 111, 111, 112, 32, 123] : Str)) ++ rB ([] : Str) o (blocks.take k) 0 ++ lnT o ([] : Str)).length + (St.txL blocks[k] (o + 1)).length ≤ 4611686018427387904; rw [List.length_append, List.length_append, hl3]; simp only [List.length_append, List.length_cons, List.length_nil]; omega, ?_⟩
          exact ⟨k + 1, hlt, by omega, Le.same ⟨rfl, rfl, rfl, sv (by rw [e2]; simp only [List.append_assoc]), sint (wrap_nat k (by omega)), trivial⟩⟩
        · have h0 : k = 0 := by simp at h0; omega
          subst h0
          rw [if_pos rfl] at e2 hle
          refine Bl.inRow hlt ?_
          refine PFun.call c ?_
          refine ⟨by show (lnT o (([108, 111, 111, 112, 32, 123] : Str)) ++ rB ([] : Str) o (blocks.take 0) 0).length + (St.txL blocks[0] (o + 1)).length ≤ 4611686018427387904; rw [List.length_append, hl3]; simp only [List.length_append, List.length_cons, List.length_nil]; omega, ?_⟩
          exact ⟨1, hlt, by omega, Le.same ⟨rfl, rfl, rfl, sv (by rw [e2]; simp only [List.append_assoc, List.nil_append]), rfl, trivial⟩⟩
      · have hge : k = blocks.length := by simp at h2; omega
        subst hge
        rw [List.take_length]
        refine PFun.call (refLine_c o [125] (by simp only [List.length_cons, List.length_nil]; omega)) ?_
        refine ⟨by show (lnT o (([108, 111, 111, 112, 32, 123] : Str)) ++ rB ([] : Str) o blocks 0).length + (lnT o [125]).length ≤ 4611686018427387904; rw [List.length_append, hl3]; simp only [List.length_append, List.length_cons, List.length_nil]; omega, ?_⟩
        exact fin1 rfl
    · have hop : e.op = 0 := (hh.ex' (by simp)).1
      have hex : exT e = [] := by unfold exT; rw [if_pos hop]
      have hne : 0 < blocks.length := by have := hh.len6 rfl; omega
      have e1 : (St.mk 6 mon name n e blocks pl).tx o = (lnT o (([99, 104, 111, 111, 115, 101, 32, 123] : Str)) ++ rB ([125, 32, 111, 114, 32, 123] : Str) o blocks 0) ++ lnT o [125] := by
        cases blocks with
        | nil => simp at hne
        | cons b r =>
        rw [St.tx]
        have e2 := rB_all ([99, 104, 111, 111, 115, 101]) [111, 114] o b r ([125, 32, 111, 114, 32, 123] : Str) (fun _ => rfl)
        show (ind o ++ [99, 104, 111, 111, 115, 101]) ++ (exT e ++ (St.txB (b :: r) [111, 114] o 0 ++ [10])) = _
        rw [hex]
        refine Eq.trans ?_ e2.symm
        simp
      rw [e1] at hlen ⊢
      have hl2 := hlen
      simp only [List.length_append] at hl2
      have hl3 : (lnT o (([99, 104, 111, 111, 115, 101, 32, 123] : Str))).length = 2 * o + ((([99, 104, 111, 111, 115, 101, 32, 123] : Str)).length + 1) := by unfold lnT; rw [List.length_append, ind_len, List.length_append]; rfl
      rw [hl3] at hl2
      have hl4 : (lnT o ([125, 32, 111, 114, 32, 123] : Str)).length = 2 * o + ((([125, 32, 111, 114, 32, 123] : Str) : Str).length + 1) := by unfold lnT; rw [List.length_append, ind_len, List.length_append]; rfl
      have hl5 : (lnT o [125]).length = 2 * o + 2 := by unfold lnT; rw [List.length_append, ind_len]; rfl
      simp only [List.length_append, List.length_cons, List.length_nil, ind_len] at hl2
      refine SWp.go pok (by kernel_rfl) ?_
      refine PFun.call (refLine_c o (([99, 104, 111, 111, 115, 101, 32, 123] : Str)) (by simp only [List.length_append, List.length_cons, List.length_nil]; omega)) ?_
      refine SWp.loop (fun k : Nat => k ≤ blocks.length) (fun k => ([(1, iv o), (2, .ptr 0 0), (6, sv' ([125, 32, 111, 114, 32, 123] : Str)), (7, sv' (lnT o (([99, 104, 111, 111, 115, 101, 32, 123] : Str)) ++ rB ([125, 32, 111, 114, 32, 123] : Str) o (blocks.take k) 0)), (8, iv k)], [.box [iv 6, sv' mon, sv' name, iv n, iv e.op, sv' e.mon, sv' e.name, iv e.n, .d (.sl (e.kids.map Ex.e)), iv e.pl, .d (.sl (blocks.map blk)), iv pl]])) (fun k => blocks.length - k) 0 (Nat.zero_le _) (Le.same ⟨rfl, rfl, rfl, sv (by rw [List.take_zero, rB, List.append_nil]), rfl, trivial⟩) (fun k hk => ?_)
      refine SWp.go pok (by kernel_rfl) ?_
      refine brP_split (fun h2 => ?_) (fun h2 => ?_)
      · have hlt : k < blocks.length := by simpa using h2
        have e2 := rB_take ([125, 32, 111, 114, 32, 123] : Str) o 0 hlt
        rw [Nat.zero_add] at e2
        have hle := rB_le ([125, 32, 111, 114, 32, 123] : Str) o blocks (k + 1) 0
        rw [e2, List.length_append, List.length_append] at hle
        have hm := List.getElem_mem hlt
        have c := hsts blocks[k] hm (by omega)
        rw [← hwo] at c
        refine brP_split (fun h0 => ?_) (fun h0 => ?_)
        · have h0 : 0 < k := by simpa using h0
          rw [if_neg (by omega)] at e2 hle
          refine PFun.call (refLine_c o ([125, 32, 111, 114, 32, 123] : Str) (by simp only [List.length_cons, List.length_nil]; omega)) ?_
          refine ⟨by show (lnT o (([99, 104, 111, 111, 115, 101, 32, 123] : Str)) ++ rB ([125, 32, 111, 114, 32, 123] : Str) o (blocks.take k) 0).length + (lnT o ([125, 32, 111, 114, 32, 123] : Str)).length ≤ 4611686018427387904; rw [List.length_append, hl3]; simp only [List.length_append, List.length_cons, List.length_nil]; omega, ?_⟩
          refine Bl.inRow hlt ?_
          refine PFun.call c ?_
          refine ⟨by show (lnT o (([99, 104, 111, 111, 115, 101, 32, 123] : Str)) ++ rB ([125, 32, 111, 114, 32, 123] : Str) o (blocks.take k) 0 ++ lnT o ([125, 32, 111, 114, 32, 123] : Str)).length + (St.txL blocks[k] (o + 1)).length ≤ 4611686018427387904; rw [List.length_append, List.length_append, hl3]; simp only [List.length_append, List.length_cons, List.length_nil]; omega, ?_⟩
          exact ⟨k + 1, hlt, by omega, Le.same ⟨rfl, rfl, rfl, sv (by rw [e2]; simp only [List.append_assoc]), sint (wrap_nat k (by omega)), trivial⟩⟩
        · have h0 : k = 0 := by simp at h0; omega
          subst h0
          rw [if_pos rfl] at e2 hle
          refine Bl.inRow hlt ?_
          refine PFun.call c ?_
          refine ⟨by show (lnT o (([99, 104, 111, 111, 115, 101, 32, 123] : Str)) ++ rB ([125, 32, 111, 114, 32, 123] : Str) o (blocks.take 0) 0).length + (St.txL blocks[0] (o + 1)).length ≤ 4611686018427387904; rw [List.length_append, hl3]; simp only [List.length_append, List.length_cons, List.length_nil]; omega, ?_⟩
          exact ⟨1, hlt, by omega, Le.same ⟨rfl, rfl, rfl, sv (by rw [e2]; simp only [List.append_assoc, List.nil_append]), rfl, trivial⟩⟩
      · have hge : k = blocks.length := by simp at h2; omega
        subst hge
        rw [List.take_length]
        refine PFun.call (refLine_c o [125] (by simp only [List.length_cons, List.length_nil]; omega)) ?_
        refine ⟨by show (lnT o (([99, 104, 111, 111, 115, 101, 32, 123] : Str)) ++ rB ([125, 32, 111, 114, 32, 123] : Str) o blocks 0).length + (lnT o [125]).length ≤ 4611686018427387904; rw [List.length_append, hl3]; simp only [List.length_append, List.length_cons, List.length_nil]; omega, ?_⟩
        exact fin1 rfl
    · have hop : e.op = 0 := (hh.ex' (by simp)).1
      have hex : exT e = [] := by unfold exT; rw [if_pos hop]
      have hne : 0 < blocks.length := by have := hh.len1 (by simp); omega
      have e1 : (St.mk 7 mon name n e blocks pl).tx o = (lnT o ((([115, 121, 110, 99, 32] ++ mon) ++ [32, 123])) ++ rB ([] : Str) o blocks 0) ++ lnT o [125] := by
        cases blocks with
        | nil => simp at hne
        | cons b r =>
        rw [St.tx]
        have e2 := rB_all (([115, 121, 110, 99, 32] ++ mon)) [] o b r ([] : Str) (fun hr => absurd (by have h1 : (b :: r).length = 1 := hh.len1 (by simp); exact List.eq_nil_of_length_eq_zero (by simpa using h1)) hr)
        show (ind o ++ ([115, 121, 110, 99, 32] ++ mon)) ++ (exT e ++ (St.txB (b :: r) [] o 0 ++ [10])) = _
        rw [hex]
        refine Eq.trans ?_ e2.symm
        simp
      rw [e1] at hlen ⊢
      have hl2 := hlen
      simp only [List.length_append] at hl2
      have hl3 : (lnT o ((([115, 121, 110, 99, 32] ++ mon) ++ [32, 123]))).length = 2 * o + (((([115, 121, 110, 99, 32] ++ mon) ++ [32, 123])).length + 1) := by unfold lnT; rw [List.length_append, ind_len, List.length_append]; rfl
      rw [hl3] at hl2
      have hl4 : (lnT o ([] : Str)).length = 2 * o + ((([] : Str) : Str).length + 1) := by unfold lnT; rw [List.length_append, ind_len, List.length_append]; rfl
      have hl5 : (lnT o [125]).length = 2 * o + 2 := by unfold lnT; rw [List.length_append, ind_len]; rfl
      simp only [List.length_append, List.length_cons, List.length_nil, ind_len] at hl2
      refine SWp.go pok (by kernel_rfl) ?_
      refine ⟨by show ([115, 121, 110, 99, 32]).length + (mon).length ≤ 4611686018427387904; simp only [List.length_append, List.length_cons, List.length_nil]; omega, ?_⟩
      refine ⟨by show (([115, 121, 110, 99, 32] ++ mon)).length + ([32, 123]).length ≤ 4611686018427387904; simp only [List.length_append, List.length_cons, List.length_nil]; omega, ?_⟩
      refine PFun.call (refLine_c o ((([115, 121, 110, 99, 32] ++ mon) ++ [32, 123])) (by simp only [List.length_append, List.length_cons, List.length_nil]; omega)) ?_
      refine SWp.loop (fun k : Nat => k ≤ blocks.length) (fun k => ([(1, iv o), (2, .ptr 0 0), (6, sv' ([] : Str)), (7, sv' (lnT o ((([115, 121, 110, 99, 32] ++ mon) ++ [32, 123])) ++ rB ([] : Str) o (blocks.take k) 0)), (8, iv k)], [.box [iv 7, sv' mon, sv' name, iv n, iv e.op, sv' e.mon, sv' e.name, iv e.n, .d (.sl (e.kids.map Ex.e)), iv e.pl, .d (.sl (blocks.map blk)), iv pl]])) (fun k => blocks.length - k) 0 (Nat.zero_le _) (Le.same ⟨rfl, rfl, rfl, sv (by rw [List.take_zero, rB, List.append_nil]), rfl, trivial⟩) (fun k hk => ?_)
      refine SWp.go pok (by kernel_rfl) ?_
      refine brP_split (fun h2 => ?_) (fun h2 => ?_)
      · have hlt : k < blocks.length := by simpa using h2
        have e2 := rB_take ([] : Str) o 0 hlt
        rw [Nat.zero_add] at e2
        have hle := rB_le ([] : Str) o blocks (k + 1) 0
        rw [e2, List.length_append, List.length_append] at hle
        have hm := List.getElem_mem hlt
        have c := hsts blocks[k] hm (by omega)
        rw [← hwo] at c
        refine brP_split (fun h0 => ?_) (fun h0 => ?_)
        · have h0 : 0 < k := by simpa using h0
          rw [if_neg (by omega)] at e2 hle
          refine PFun.call (refLine_c o ([] : Str) (by simp only [List.length_cons, List.length_nil]; omega)) ?_
          refine ⟨by show (lnT o ((([115, 121, 110, 99, 32] ++ mon) ++ [32, 123])) ++ rB ([] : Str) o (blocks.take k) 0).length + (lnT o ([] : Str)).length ≤ 4611686018427387904; rw [List.length_append, hl3]; simp only [List.length_append, List.length_cons, List.length_nil]; omega, ?_⟩
          refine Bl.inRow hlt ?_
          refine PFun.call c ?_
          refine ⟨by show (lnT o ((([115, 121, 110, 99, 32] ++ mon) ++ [32, 123])) ++ rB ([] : Str) o (blocks.take k) 0 ++ lnT o ([] : Str)).length + (St.txL blocks[k] (o + 1)).length ≤ 4611686018427387904; rw [List.length_append, List.length_append, hl3]; simp only [List.length_append, List.length_cons, List.length_nil]; omega, ?_⟩
          exact ⟨k + 1, hlt, by omega, Le.same ⟨rfl, rfl, rfl, sv (by rw [e2]; simp only [List.append_assoc]), sint (wrap_nat k (by omega)), trivial⟩⟩
        · have h0 : k = 0 := by simp at h0; omega
          subst h0
          rw [if_pos rfl] at e2 hle
          refine Bl.inRow hlt ?_
          refine PFun.call c ?_
          refine ⟨by show (lnT o ((([115, 121, 110, 99, 32] ++ mon) ++ [32, 123])) ++ rB ([] : Str) o (blocks.take 0) 0).length + (St.txL blocks[0] (o + 1)).length ≤ 4611686018427387904; rw [List.length_append, hl3]; simp only [List.length_append, List.length_cons, List.length_nil]; omega, ?_⟩
          exact ⟨1, hlt, by omega, Le.same ⟨rfl, rfl, rfl, sv (by rw [e2]; simp only [List.append_assoc, List.nil_append]), rfl, trivial⟩⟩
      · have hge : k = blocks.length := by simp at h2; omega
        subst hge
        rw [List.take_length]
        refine PFun.call (refLine_c o [125] (by simp only [List.length_cons, List.length_nil]; omega)) ?_
        refine ⟨by show (lnT o ((([115, 121, 110, 99, 32] ++ mon) ++ [32, 123])) ++ rB ([] : Str) o blocks 0).length + (lnT o [125]).length ≤ 4611686018427387904; rw [List.length_append, hl3]; simp only [List.length_append, List.length_cons, List.length_nil]; omega, ?_⟩
        exact fin1 rfl
    · have e1 : (St.mk 8 mon name n e blocks pl).tx o = lnT o ((((([99, 97, 108, 108, 32] ++ mon) ++ [46]) ++ name) ++ [59])) := by
        rw [St.tx]
        show ind o ++ (([99, 97, 108, 108, 32] ++ (mon ++ ([46] ++ (name ++ [59])))) ++ [10]) = _
        unfold lnT
        simp
      rw [e1] at hlen ⊢
      have hl2 := hlen
      unfold lnT at hl2
      simp only [List.length_append, List.length_cons, List.length_nil, ind_len] at hl2
      refine SWp.go pok (by kernel_rfl) ?_
      refine ⟨by show ([99, 97, 108, 108, 32]).length + (mon).length ≤ 4611686018427387904; simp only [List.length_append, List.length_cons, List.length_nil]; omega, ?_⟩
      refine ⟨by show (([99, 97, 108, 108, 32] ++ mon)).length + ([46]).length ≤ 4611686018427387904; simp only [List.length_append, List.length_cons, List.length_nil]; omega, ?_⟩
      refine ⟨by show ((([99, 97, 108, 108, 32] ++ mon) ++ [46])).length + (name).length ≤ 4611686018427387904; simp only [List.length_append, List.length_cons, List.length_nil]; omega, ?_⟩
      refine ⟨by show (((([99, 97, 108, 108, 32] ++ mon) ++ [46]) ++ name)).length + ([59]).length ≤ 4611686018427387904; simp only [List.length_append, List.length_cons, List.length_nil]; omega, ?_⟩
      refine PFun.call (refLine_c o ((((([99, 97, 108, 108, 32] ++ mon) ++ [46]) ++ name) ++ [59])) (by simp only [List.length_append, List.length_cons, List.length_nil]; omega)) ?_
      exact fin1 rfl
    · by_cases h9 : n > 0
      · have e1 : (St.mk 9 mon name n e blocks pl).tx o = lnT o ((((([119, 97, 105, 116, 32] ++ mon) ++ [32]) ++ Lib.itoa n) ++ [59])) := by
          rw [St.tx]
          rw [show stK 9 mon name n e o (St.txB blocks (wordOf 9) o 0 ++ [10]) = (ind o ++ ([119, 97, 105, 116, 32] ++ mon)) ++ ((if n > 0 then [32] ++ Lib.itoa n else []) ++ [59, 10]) from rfl, if_pos h9]
          show (ind o ++ ([119, 97, 105, 116, 32] ++ mon)) ++ ([32] ++ Lib.itoa n ++ [59, 10]) = _
          unfold lnT
          simp
        rw [e1] at hlen ⊢
        have hl2 := hlen
        unfold lnT at hl2
        simp only [List.length_append, List.length_cons, List.length_nil, ind_len] at hl2
        refine SWp.go pok (by kernel_rfl) ?_
        refine brP_true (by simpa using h9) ?_
        refine ⟨by show ([119, 97, 105, 116, 32]).length + (mon).length ≤ 4611686018427387904; simp only [List.length_append, List.length_cons, List.length_nil]; omega, ?_⟩
        refine ⟨by show (([119, 97, 105, 116, 32] ++ mon)).length + ([32]).length ≤ 4611686018427387904; simp only [List.length_append, List.length_cons, List.length_nil]; omega, ?_⟩
        have hn9 : n ≠ -9223372036854775808 := by have := hh.n0; omega
        refine ⟨_, _, digits_all ⟨hn, hn9⟩, ?_⟩
        refine ⟨by show ((([119, 97, 105, 116, 32] ++ mon) ++ [32])).length + (Lib.itoa n).length ≤ 4611686018427387904; simp only [List.length_append, List.length_cons, List.length_nil]; omega, ?_⟩
        refine ⟨by show (((([119, 97, 105, 116, 32] ++ mon) ++ [32]) ++ Lib.itoa n)).length + ([59]).length ≤ 4611686018427387904; simp only [List.length_append, List.length_cons, List.length_nil]; omega, ?_⟩
        refine ⟨_, _, refLine_c o ((((([119, 97, 105, 116, 32] ++ mon) ++ [32]) ++ Lib.itoa n) ++ [59])) (by simp only [List.length_append, List.length_cons, List.length_nil]; omega), ?_⟩
        exact fin1 rfl
      · have e1 : (St.mk 9 mon name n e blocks pl).tx o = lnT o ((([119, 97, 105, 116, 32] ++ mon) ++ [59])) := by
          rw [St.tx]
          rw [show stK 9 mon name n e o (St.txB blocks (wordOf 9) o 0 ++ [10]) = (ind o ++ ([119, 97, 105, 116, 32] ++ mon)) ++ ((if n > 0 then [32] ++ Lib.itoa n else []) ++ [59, 10]) from rfl, if_neg h9]
          show (ind o ++ ([119, 97, 105, 116, 32] ++ mon)) ++ ([] ++ [59, 10]) = _
          unfold lnT
          simp
        rw [e1] at hlen ⊢
        have hl2 := hlen
        unfold lnT at hl2
        simp only [List.length_append, List.length_cons, List.length_nil, ind_len] at hl2
        refine SWp.go pok (by kernel_rfl) ?_
        refine brP_false (by simp; omega) ?_
        refine ⟨by show ([119, 97, 105, 116, 32]).length + (mon).length ≤ 4611686018427387904; simp only [List.length_append, List.length_cons, List.length_nil]; omega, ?_⟩
        refine ⟨by show (([119, 97, 105, 116, 32] ++ mon)).length + ([59]).length ≤ 4611686018427387904; simp only [List.length_append, List.length_cons, List.length_nil]; omega, ?_⟩
        refine PFun.call (refLine_c o ((([119, 97, 105, 116, 32] ++ mon) ++ [59])) (by simp only [List.length_append, List.length_cons, List.length_nil]; omega)) ?_
        exact fin1 rfl
    · have e1 : (St.mk 10 mon name n e blocks pl).tx o = lnT o ((([110, 111, 116, 105, 102, 121, 32] ++ mon) ++ [59])) := by
        rw [St.tx]
        show ind o ++ (([110, 111, 116, 105, 102, 121, 32] ++ (mon ++ [59])) ++ [10]) = _
        unfold lnT
        simp
      rw [e1] at hlen ⊢
      have hl2 := hlen
      unfold lnT at hl2
      simp only [List.length_append, List.length_cons, List.length_nil, ind_len] at hl2
      refine SWp.go pok (by kernel_rfl) ?_
      refine ⟨by show ([110, 111, 116, 105, 102, 121, 32]).length + (mon).length ≤ 4611686018427387904; simp only [List.length_append, List.length_cons, List.length_nil]; omega, ?_⟩
      refine ⟨by show (([110, 111, 116, 105, 102, 121, 32] ++ mon)).length + ([59]).length ≤ 4611686018427387904; simp only [List.length_append, List.length_cons, List.length_nil]; omega, ?_⟩
      refine PFun.call (refLine_c o ((([110, 111, 116, 105, 102, 121, 32] ++ mon) ++ [59])) (by simp only [List.length_append, List.length_cons, List.length_nil]; omega)) ?_
      exact fin1 rfl
    · have e1 : (St.mk 11 mon name n e blocks pl).tx o = lnT o ((([110, 111, 116, 105, 102, 121, 97, 108, 108, 32] ++ mon) ++ [59])) := by
        rw [St.tx]
        show ind o ++ (([110, 111, 116, 105, 102, 121, 97, 108, 108, 32] ++ (mon ++ [59])) ++ [10]) = _
        unfold lnT
        simp
      rw [e1] at hlen ⊢
      have hl2 := hlen
      unfold lnT at hl2
      simp only [List.length_append, List.length_cons, List.length_nil, ind_len] at hl2
      refine SWp.go pok (by kernel_rfl) ?_
      refine ⟨by show ([110, 111, 116, 105, 102, 121, 97, 108, 108, 32]).length + (mon).length ≤ 4611686018427387904; simp only [List.length_append, List.length_cons, List.length_nil]; omega, ?_⟩
      refine ⟨by show (([110, 111, 116, 105, 102, 121, 97, 108, 108, 32] ++ mon)).length + ([59]).length ≤ 4611686018427387904; simp only [List.length_append, List.length_cons, List.length_nil]; omega, ?_⟩
      refine PFun.call (refLine_c o ((([110, 111, 116, 105, 102, 121, 97, 108, 108, 32] ++ mon) ++ [59])) (by simp only [List.length_append, List.length_cons, List.length_nil]; omega)) ?_
      exact fin1 rfl
end Go.Proofs.YtmflfcbebeikcaaGreatDoor.Q

namespace Go.Proofs.YtmflfcbebeikcaaGreatDoor.Q
open Go.RowKit
variable [Amb] [Pow]
theorem refIs_c (p : Pg) (h : PgF p) (hv : ∀ m ∈ p.mons, ∀ v ∈ m.vars, VrP v) : PFun Tryz.prog 26 [p.v] [] (.d (.bool p.ok)) [] := by
  unfold Pg.ok
  refine fn_sem pok 122 0 Tryz.func26 (by kernel_rfl) rfl rfl rfl rfl ?_
  refine SWp.go pok (by kernel_rfl) ?_
  refine brP_split (fun h2 => ?_) (fun h2 => ?_)
  · have h2 : decide (p.mons.length ≤ 8) = false := by simp at h2 ⊢; omega
    exact fin1 (dbool (by rw [h2]; rfl))
  have hm : p.mons.length ≤ 8 := by simp at h2; omega
  rw [decide_eq_true hm]
  refine brP_split (fun h3 => ?_) (fun h3 => ?_)
  · have h3 : decide (p.roles.length ≤ 8) = false := by simp at h3 ⊢; omega
    exact fin1 (dbool (by rw [h3]; rfl))
  have hr : p.roles.length ≤ 8 := by simp at h3; omega
  rw [decide_eq_true hr]
  refine SWp.loop (fun k : Nat => k ≤ p.mons.length ∧ (p.mons.drop k).all Mo.ok = p.mons.all Mo.ok) (fun k => ([(1, .ptr 0 0), (3, iv k)], [.box [.d (.sl (p.mons.map Mo.c)), .d (.sl (p.roles.map Ro.c))]])) (fun k => p.mons.length - k) 0 ⟨Nat.zero_le _, rfl⟩ (Le.same ⟨rfl, rfl, trivial⟩) (fun i hi => ?_)
  obtain ⟨hi, hk⟩ := hi
  refine SWp.go pok (by kernel_rfl) ?_
  refine brP_split (fun h4 => ?_) (fun h4 => ?_)
  · have hlt : i < p.mons.length := by simpa using h4
    have hmem := List.getElem_mem hlt
    have hat : (p.mons.drop i).all Mo.ok = (p.mons[i].ok && (p.mons.drop (i + 1)).all Mo.ok) := by rw [List.drop_eq_getElem_cons hlt]; rfl
    have hmf := h.mons _ hmem
    have hno : p.mons[i].ok = false → p.mons.all Mo.ok = false := fun e => by rw [← hk, hat, e]; rfl
    have hyes : p.mons[i].ok = true → (p.mons.drop (i + 1)).all Mo.ok = p.mons.all Mo.ok := fun e => by rw [← hk, hat, e]; rfl
    have fin : p.mons[i].ok = false → (false = (true && true && p.mons.all Mo.ok && p.roles.all Ro.ok)) := fun e => by rw [hno e]; rfl
    have hvv := hv _ hmem
    have hvt := fun (k : Nat) (hk : k < p.mons[i].vars.length) => refIsVar_c p.mons[i].vars[k] (hmf.vars _ (List.getElem_mem hk)) (hvv _ (List.getElem_mem hk)).lo (hvv _ (List.getElem_mem hk)).hi (hvv _ (List.getElem_mem hk)).init
    refine Mo.inRow hlt ?_
    refine PFun.call (refName_c p.mons[i].name hmf.name) ?_
    refine brP_split (fun h5 => ?_) (fun h5 => ?_)
    · exact fin1 (dbool (fin (by unfold Mo.ok; simp at h5; rw [h5]; rfl)))
    have h5 : isName p.mons[i].name = true := by simpa using h5
    refine brP_split (fun h6 => ?_) (fun h6 => ?_)
    · exact fin1 (dbool (fin (by unfold Mo.ok; rw [decide_eq_false (p := p.mons[i].vars.length ≤ 16) (by simp at h6; omega)]; simp)))
    have h6 : p.mons[i].vars.length ≤ 16 := by simp at h6; omega
    refine brP_split (fun h7 => ?_) (fun h7 => ?_)
    · exact fin1 (dbool (fin (by unfold Mo.ok; rw [decide_eq_false (p := p.mons[i].methods.length ≤ 16) (by simp at h7; omega)]; simp)))
    have h7 : p.mons[i].methods.length ≤ 16 := by simp at h7; omega
    have hmo : p.mons[i].ok = (p.mons[i].vars.all Vr.ok && p.mons[i].methods.all Mt.ok) := by unfold Mo.ok; rw [h5, decide_eq_true h6, decide_eq_true h7]; rfl
    refine SWp.loop (fun k : Nat => k ≤ p.mons[i].vars.length ∧ (p.mons[i].vars.drop k).all Vr.ok = p.mons[i].vars.all Vr.ok) (fun k => ([(1, .ptr 0 0), (3, iv i), (4, .ptr 1 0), (5, iv k)], [.box [.d (.sl (p.mons.map Mo.c)), .d (.sl (p.roles.map Ro.c))], .box [sv' p.mons[i].name, .d (.sl (p.mons[i].vars.map Vr.c)), .d (.sl (p.mons[i].methods.map Mt.c)), iv p.mons[i].pl]])) (fun k => p.mons[i].vars.length - k) 0 ⟨Nat.zero_le _, rfl⟩ (Le.same ⟨rfl, rfl, rfl, rfl, trivial⟩) (fun k hq => ?_)
    obtain ⟨hkv, hq⟩ := hq
    refine SWp.go pok (by kernel_rfl) ?_
    refine brP_split (fun h8 => ?_) (fun h8 => ?_)
    · have hkl : k < p.mons[i].vars.length := by simpa using h8
      have hat2 : (p.mons[i].vars.drop k).all Vr.ok = (p.mons[i].vars[k].ok && (p.mons[i].vars.drop (k + 1)).all Vr.ok) := by rw [List.drop_eq_getElem_cons hkl]; rfl
      refine PIdx.map (get_at hkl) ?_
      refine PFun.call (hvt k hkl) ?_
      refine brP_split (fun h9 => ?_) (fun h9 => ?_)
      · have h9 : p.mons[i].vars[k].ok = false := by simpa using h9
        exact fin1 (dbool (fin (by rw [hmo, ← hq, hat2, h9]; rfl)))
      · have h9 : p.mons[i].vars[k].ok = true := by simpa using h9
        exact ⟨k + 1, ⟨hkl, by rw [← hq, hat2, h9]; rfl⟩, by omega, Le.same ⟨rfl, rfl, rfl, sint (wrap_nat k (by omega)), trivial⟩⟩
    have hke : k = p.mons[i].vars.length := by simp at h8; omega
    subst hke
    rw [List.drop_of_length_le (Nat.le_refl _)] at hq
    have hq : p.mons[i].vars.all Vr.ok = true := hq.symm
    rw [hq, Bool.true_and] at hmo
    refine SWp.loop (fun k : Nat => k ≤ p.mons[i].methods.length ∧ (p.mons[i].methods.drop k).all Mt.ok = p.mons[i].methods.all Mt.ok) (fun k => ([(1, .ptr 0 0), (3, iv i), (4, .ptr 1 0), (6, iv k)], [.box [.d (.sl (p.mons.map Mo.c)), .d (.sl (p.roles.map Ro.c))], .box [sv' p.mons[i].name, .d (.sl (p.mons[i].vars.map Vr.c)), .d (.sl (p.mons[i].methods.map Mt.c)), iv p.mons[i].pl]])) (fun k => p.mons[i].methods.length - k) 0 ⟨Nat.zero_le _, rfl⟩ (Le.same ⟨rfl, rfl, rfl, rfl, trivial⟩) (fun k hq2 => ?_)
    obtain ⟨hkm, hq2⟩ := hq2
    refine SWp.go pok (by kernel_rfl) ?_
    refine brP_split (fun h8 => ?_) (fun h8 => ?_)
    · have hkl : k < p.mons[i].methods.length := by simpa using h8
      have hat2 : (p.mons[i].methods.drop k).all Mt.ok = (p.mons[i].methods[k].ok && (p.mons[i].methods.drop (k + 1)).all Mt.ok) := by rw [List.drop_eq_getElem_cons hkl]; rfl
      have hf := hmf.meths _ (List.getElem_mem hkl)
      refine PIdx.map (get_at hkl) ?_
      refine PFun.call (refName_c p.mons[i].methods[k].name hf.name) ?_
      refine brP_split (fun h9 => ?_) (fun h9 => ?_)
      · have h9 : isName p.mons[i].methods[k].name = false := by simpa using h9
        exact fin1 (dbool (fin (by rw [hmo, ← hq2, hat2]; unfold Mt.ok; rw [h9]; rfl)))
      have h9 : isName p.mons[i].methods[k].name = true := by simpa using h9
      refine PIdx.map (get_at hkl) ?_
      refine PFun.call (refIsStmts_c _ p.mons[i].methods[k].body (Nat.le_refl _) hf.body) ?_
      refine brP_split (fun h10 => ?_) (fun h10 => ?_)
      · have h10 : St.okL p.mons[i].methods[k].body = false := by simpa using h10
        exact fin1 (dbool (fin (by rw [hmo, ← hq2, hat2]; unfold Mt.ok; rw [h9, h10]; rfl)))
      · have h10 : St.okL p.mons[i].methods[k].body = true := by simpa using h10
        exact ⟨k + 1, ⟨hkl, by rw [← hq2, hat2]; unfold Mt.ok; rw [h9, h10]; rfl⟩, by omega, Le.same ⟨rfl, rfl, rfl, sint (wrap_nat k (by omega)), trivial⟩⟩
    have hke : k = p.mons[i].methods.length := by simp at h8; omega
    subst hke
    rw [List.drop_of_length_le (Nat.le_refl _)] at hq2
    exact ⟨i + 1, ⟨hlt, hyes (by rw [hmo, ← hq2]; rfl)⟩, by omega, .inr ⟨[0], ⟨rfl, rfl⟩, rfl, rfl, sint (wrap_nat i (by omega)), trivial⟩⟩
  have hk' : i = p.mons.length := by simp at h4; omega
  subst hk'
  rw [List.drop_of_length_le (Nat.le_refl _)] at hk
  rw [← hk]
  refine SWp.loop (fun k : Nat => k ≤ p.roles.length ∧ (p.roles.drop k).all Ro.ok = p.roles.all Ro.ok) (fun k => ([(1, .ptr 0 0), (7, iv k)], [.box [.d (.sl (p.mons.map Mo.c)), .d (.sl (p.roles.map Ro.c))]])) (fun k => p.roles.length - k) 0 ⟨Nat.zero_le _, rfl⟩ (Le.same ⟨rfl, rfl, trivial⟩) (fun k hk2 => ?_)
  obtain ⟨hj, hk2⟩ := hk2
  refine SWp.go pok (by kernel_rfl) ?_
  refine brP_split (fun h4 => ?_) (fun h4 => ?_)
  · have hlt : k < p.roles.length := by simpa using h4
    have hrf := h.roles _ (List.getElem_mem hlt)
    have hat : (p.roles.drop k).all Ro.ok = (p.roles[k].ok && (p.roles.drop (k + 1)).all Ro.ok) := by rw [List.drop_eq_getElem_cons hlt]; rfl
    have fin : p.roles[k].ok = false → (false = (true && true && [].all Mo.ok && p.roles.all Ro.ok)) := fun e => by rw [← hk2, hat, e]; rfl
    refine Ro.inRow hlt ?_
    refine PFun.call (refName_c p.roles[k].name hrf.name) ?_
    refine brP_split (fun h5 => ?_) (fun h5 => ?_)
    · exact fin1 (dbool (fin (by unfold Ro.ok; simp at h5; rw [h5]; rfl)))
    have h5 : isName p.roles[k].name = true := by simpa using h5
    refine brP_split (fun h6 => ?_) (fun h6 => ?_)
    · exact fin1 (dbool (fin (by unfold Ro.ok; rw [decide_eq_false (p := p.roles[k].count ≥ 0) (by simp at h6; omega)]; simp)))
    have h6 : p.roles[k].count ≥ 0 := by simp at h6; omega
    have tail : (p.roles[k].star && (p.roles[k].count != 0)) = false → p.roles[k].ok = St.okL p.roles[k].body := fun e => by unfold Ro.ok; rw [h5, decide_eq_true h6, e]; rfl
    refine brP_split (fun h7 => ?_) (fun h7 => ?_)
    · repeat refine brP_true h7 ?_
      refine brP_split (fun h8 => ?_) (fun h8 => ?_)
      · repeat first | refine brP_true h7 ?_ | refine brP_true h8 ?_
        exact fin1 (dbool (fin (by unfold Ro.ok; rw [h7, h8]; simp)))
      repeat first | refine brP_true h7 ?_ | refine brP_false h8 ?_
      have tl := tail (by rw [h7, h8]; rfl)
      refine PFun.call (refIsStmts_c _ p.roles[k].body (Nat.le_refl _) hrf.body) ?_
      refine brP_split (fun h10 => ?_) (fun h10 => ?_)
      · have h10 : St.okL p.roles[k].body = false := by simpa using h10
        exact fin1 (dbool (fin (by rw [tl, h10])))
      · have h10 : St.okL p.roles[k].body = true := by simpa using h10
        exact ⟨k + 1, ⟨hlt, by rw [← hk2, hat, tl, h10]; rfl⟩, by omega, .inr ⟨[0], ⟨rfl, rfl⟩, rfl, rfl, sint (wrap_nat k (by omega)), trivial⟩⟩
    · repeat refine brP_false h7 ?_
      have tl := tail (by rw [h7]; rfl)
      refine PFun.call (refIsStmts_c _ p.roles[k].body (Nat.le_refl _) hrf.body) ?_
      refine brP_split (fun h10 => ?_) (fun h10 => ?_)
      · have h10 : St.okL p.roles[k].body = false := by simpa using h10
        exact fin1 (dbool (fin (by rw [tl, h10])))
      · have h10 : St.okL p.roles[k].body = true := by simpa using h10
        exact ⟨k + 1, ⟨hlt, by rw [← hk2, hat, tl, h10]; rfl⟩, by omega, .inr ⟨[0], ⟨rfl, rfl⟩, rfl, rfl, sint (wrap_nat k (by omega)), trivial⟩⟩
  · have hk' : k = p.roles.length := by simp at h4; omega
    subst hk'
    rw [List.drop_of_length_le (Nat.le_refl _)] at hk2
    exact fin1 (dbool (by rw [← hk2]; rfl))
end Go.Proofs.YtmflfcbebeikcaaGreatDoor.Q

namespace Go.Proofs.YtmflfcbebeikcaaGreatDoor.Q
open Go.RowKit
variable [Amb] [Pow]
theorem StN.parts {y : St} (h : StN y) : (y.e.op ≠ 0 → PrOk y.e ∧ y.e.pre.length < 1073741824) ∧ y.blocks.length < 1073741824 ∧ (∀ b ∈ y.blocks, b.length < 1073741824) ∧ ∀ b ∈ y.blocks, ∀ z ∈ b, StN z := by
  cases h with
  | mk he hb hl k => exact ⟨he, hb, hl, k⟩
theorem nsS_eq (y : St) (o n : Int) : y.nsS o n = St.nsB y.blocks o (if y.e.op = 0 then n else max n (o + y.e.ns 1)) := by cases y; rw [St.nsS]
theorem cn_eq (y : St) : y.cn = 1 + St.cnB y.blocks := by cases y; rw [St.cn]
theorem rnestStmts_c (N : Nat) : ∀ (l : List St) (o : Int), St.cnL l ≤ N → 0 ≤ o → o + St.cnL l ≤ 1099511627776 → l.length < 1073741824 → (∀ y ∈ l, StN y) → PFun Tryz.prog 32 [.d (.sl (l.map St.c)), iv o] [] (iv (St.nsL l o o)) [] := by
  induction N with
  | zero =>
    intro l o hN h0 ho hl hy
    have : l = [] := by
      cases l with
      | nil => rfl
      | cons a r => rw [St.cnL] at hN; cases a; rw [St.cn] at hN; omega
    subst this
    refine fn_sem pok 56 0 Tryz.func32 (by kernel_rfl) rfl rfl rfl rfl ?_
    refine SWp.go pok (by kernel_rfl) ?_
    refine SWp.loop (fun k : Nat => k = 0) (fun k => ([(0, .d (.sl [])), (1, iv o), (5, iv o), (6, iv 0)], [])) (fun k => 0) 0 rfl (Le.same ⟨rfl, rfl, rfl, rfl, trivial⟩) (fun k hk => ?_)
    refine SWp.go pok (by kernel_rfl) ?_
    exact fin1 rfl
  | succ N ih =>
    intro l o hN h0 ho hl hy
    refine fn_sem pok 56 0 Tryz.func32 (by kernel_rfl) rfl rfl rfl rfl ?_
    refine SWp.go pok (by kernel_rfl) ?_
    refine SWp.loop (fun x : Nat × Int => x.1 ≤ l.length ∧ St.nsL (l.drop x.1) o x.2 = St.nsL l o o) (fun x => ([(0, .d (.sl (l.map St.c))), (1, iv o), (5, iv x.2), (6, iv x.1)], [])) (fun x => l.length - x.1) (0, o) ⟨Nat.zero_le _, rfl⟩ (Le.same ⟨rfl, rfl, rfl, rfl, trivial⟩) (fun x hx => ?_)
    obtain ⟨k, n⟩ := x
    obtain ⟨hk, hn⟩ := hx
    dsimp only at hk hn
    refine SWp.go pok (by kernel_rfl) ?_
    refine brP_split (fun h4 => ?_) (fun h4 => ?_)
    case refine_2 =>
      have hge : k = l.length := by simp at h4; omega
      subst hge
      rw [List.drop_of_length_le (Nat.le_refl _), St.nsL] at hn
      exact fin1 (dint hn)
    have hlt : k < l.length := by simpa using h4
    have hm := List.getElem_mem hlt
    have hat : St.nsL (l.drop k) o n = St.nsL (l.drop (k + 1)) o (l[k].nsS o n) := by rw [List.drop_eq_getElem_cons hlt, St.nsL]
    have hcn := St.cnL_mem hm
    obtain ⟨he, hb, hbl, hk2⟩ := (hy _ hm).parts
    rw [nsS_eq] at hat
    rw [cn_eq] at hcn
    refine St.inRow hlt ?_
    refine brP_split (fun h5 => ?_) (fun h5 => ?_)
    · have h5 : l[k].e.op ≠ 0 := by simpa using h5
      obtain ⟨hp, hpl⟩ := he h5
      have hnest := rnest_c _ l[k].e (Nat.le_refl _) hpl hp 1
      unfold RNests at hnest
      rw [if_neg h5] at hat
      have hbd := ns_bound _ l[k].e (Nat.le_refl _) hp
      have hb1 : 0 ≤ l[k].e.ns 1 ∧ l[k].e.ns 1 ≤ 4294967296 := by unfold Ex.ns atN; split <;> dsimp only <;> omega
      have hw : maxI n [IntKind.i64.wrap (o + l[k].e.ns 1)] = max n (o + l[k].e.ns 1) := by rw [max_eq, wrap_in (by unfold R64; omega)]
      refine St.inRow hlt ?_
      refine PFun.call hnest ?_
      generalize max n (o + l[k].e.ns 1) = n1 at hat hw
      refine SWp.loop (fun x : Nat × Int => x.1 ≤ l[k].blocks.length ∧ St.nsB (l[k].blocks.drop x.1) o x.2 = St.nsB l[k].blocks o n1) (fun x => ([(0, .d (.sl (l.map St.c))), (1, iv o), (5, iv x.2), (6, iv k), (7, iv x.1)], [])) (fun x => l[k].blocks.length - x.1) (0, n1) ⟨Nat.zero_le _, rfl⟩ (Le.same ⟨rfl, rfl, sint hw, rfl, rfl, trivial⟩) (fun x hx => ?_)
      obtain ⟨j, n2⟩ := x
      obtain ⟨hj, hn2⟩ := hx
      dsimp only at hj hn2
      refine SWp.go pok (by kernel_rfl) ?_
      refine St.inRow hlt ?_
      refine brP_split (fun h6 => ?_) (fun h6 => ?_)
      · have hltj : j < l[k].blocks.length := by simpa using h6
        have hmj := List.getElem_mem hltj
        have hatj : St.nsB (l[k].blocks.drop j) o n2 = St.nsB (l[k].blocks.drop (j + 1)) o (max n2 (St.nsL l[k].blocks[j] (o + 1) (o + 1))) := by rw [List.drop_eq_getElem_cons hltj, St.nsB]
        have hcb := St.cnB_mem hmj
        have hwo : IntKind.i64.wrap (o + 1) = o + 1 := wrap_in (by unfold R64; omega)
        have c := ih l[k].blocks[j] (o + 1) (by omega) (by omega) (by omega) (hbl _ hmj) (hk2 _ hmj)
        rw [← hwo] at c
        refine St.inRow hlt ?_
        refine Bl.inRow hltj ?_
        refine PFun.call c ?_
        exact ⟨(j + 1, max n2 (St.nsL l[k].blocks[j] (o + 1) (o + 1))), ⟨hltj, by rw [← hn2, hatj]⟩, by show l[k].blocks.length - (j + 1) < l[k].blocks.length - j; omega, Le.same ⟨rfl, rfl, sint (by rw [max_eq, hwo]), rfl, sint (wrap_nat j (by omega)), trivial⟩⟩
      · have hgj : j = l[k].blocks.length := by simp at h6; omega
        rw [hgj, List.drop_of_length_le (Nat.le_refl _), St.nsB] at hn2
        exact ⟨(k + 1, n2), ⟨hlt, by rw [← hn, hat, ← hn2]⟩, by show l.length - (k + 1) < l.length - k; omega, Le.same ⟨rfl, rfl, rfl, sint (wrap_nat k (by omega)), trivial⟩⟩
    · have h5 : l[k].e.op = 0 := by simpa using h5
      rw [if_pos h5] at hat
      refine SWp.loop (fun x : Nat × Int => x.1 ≤ l[k].blocks.length ∧ St.nsB (l[k].blocks.drop x.1) o x.2 = St.nsB l[k].blocks o n) (fun x => ([(0, .d (.sl (l.map St.c))), (1, iv o), (5, iv x.2), (6, iv k), (7, iv x.1)], [])) (fun x => l[k].blocks.length - x.1) (0, n) ⟨Nat.zero_le _, rfl⟩ (Le.same ⟨rfl, rfl, rfl, rfl, rfl, trivial⟩) (fun x hx => ?_)
      obtain ⟨j, n2⟩ := x
      obtain ⟨hj, hn2⟩ := hx
      dsimp only at hj hn2
      refine SWp.go pok (by kernel_rfl) ?_
      refine St.inRow hlt ?_
      refine brP_split (fun h6 => ?_) (fun h6 => ?_)
      · have hltj : j < l[k].blocks.length := by simpa using h6
        have hmj := List.getElem_mem hltj
        have hatj : St.nsB (l[k].blocks.drop j) o n2 = St.nsB (l[k].blocks.drop (j + 1)) o (max n2 (St.nsL l[k].blocks[j] (o + 1) (o + 1))) := by rw [List.drop_eq_getElem_cons hltj, St.nsB]
        have hcb := St.cnB_mem hmj
        have hwo : IntKind.i64.wrap (o + 1) = o + 1 := wrap_in (by unfold R64; omega)
        have c := ih l[k].blocks[j] (o + 1) (by omega) (by omega) (by omega) (hbl _ hmj) (hk2 _ hmj)
        rw [← hwo] at c
        refine St.inRow hlt ?_
        refine Bl.inRow hltj ?_
        refine PFun.call c ?_
        exact ⟨(j + 1, max n2 (St.nsL l[k].blocks[j] (o + 1) (o + 1))), ⟨hltj, by rw [← hn2, hatj]⟩, by show l[k].blocks.length - (j + 1) < l[k].blocks.length - j; omega, Le.same ⟨rfl, rfl, sint (by rw [max_eq, hwo]), rfl, sint (wrap_nat j (by omega)), trivial⟩⟩
      · have hgj : j = l[k].blocks.length := by simp at h6; omega
        rw [hgj, List.drop_of_length_le (Nat.le_refl _), St.nsB] at hn2
        exact ⟨(k + 1, n2), ⟨hlt, by rw [← hn, hat, ← hn2]⟩, by show l.length - (k + 1) < l.length - k; omega, Le.same ⟨rfl, rfl, rfl, sint (wrap_nat k (by omega)), trivial⟩⟩
theorem rnest_of {l : List St} (h : BN l) (o : Int) (h0 : 0 ≤ o) (h1 : o ≤ 10) : PFun Tryz.prog 32 [.d (.sl (l.map St.c)), iv o] [] (iv (St.nsL l o o)) [] :=
  rnestStmts_c _ l o (Nat.le_refl _) h0 (by have := h.cn; omega) h.len h.fit
theorem refNest_c (p : Pg) (hf : PgF p) (hv : ∀ m ∈ p.mons, ∀ v ∈ m.vars, VrP v) (hn : checkP p = 0 → PgN p) : PFun Tryz.prog 11 [p.v] [] (iv (nestPg p)) [] := by
  unfold nestPg
  refine fn_sem pok 60 0 Tryz.func11 (by kernel_rfl) rfl rfl rfl rfl ?_
  refine SWp.go pok (by kernel_rfl) ?_
  refine PFun.call (refIs_c p hf hv) ?_
  refine brP_split (fun h => ?_) (fun h => ?_)
  · have h : checkP p ≠ 0 := by unfold checkP; rw [if_neg (by simpa using h)]; decide
    rw [if_pos h]
    exact fin1 rfl
  have h : checkP p = 0 := by unfold checkP; rw [if_pos (by simpa using h)]
  rw [if_neg (fun k => k h)]
  have hn := hn h
  have hml := hn.mlen
  have hrl := hn.rlen
  refine SWp.loop (fun x : Nat × Int => x.1 ≤ p.mons.length ∧ nsMos (p.mons.drop x.1) x.2 = nsMos p.mons 0) (fun x => ([(1, .ptr 0 0), (3, iv x.2), (4, iv x.1)], [.box [.d (.sl (p.mons.map Mo.c)), .d (.sl (p.roles.map Ro.c))]])) (fun x => p.mons.length - x.1) (0, 0) ⟨Nat.zero_le _, rfl⟩ (Le.same ⟨rfl, rfl, rfl, trivial⟩) (fun x hx => ?_)
  obtain ⟨k, n⟩ := x
  obtain ⟨hk, hnn⟩ := hx
  dsimp only at hk hnn
  refine SWp.go pok (by kernel_rfl) ?_
  refine brP_split (fun h4 => ?_) (fun h4 => ?_)
  · have hlt : k < p.mons.length := by simpa using h4
    have hm := List.getElem_mem hlt
    have hat : nsMos (p.mons.drop k) n = nsMos (p.mons.drop (k + 1)) (nsMts p.mons[k].methods (max n 1)) := by rw [List.drop_eq_getElem_cons hlt, nsMos]
    have hfl := hn.flen _ hm
    have hme := hn.meth _ hm
    refine SWp.loop (fun x : Nat × Int => x.1 ≤ p.mons[k].methods.length ∧ nsMts (p.mons[k].methods.drop x.1) x.2 = nsMts p.mons[k].methods (max n 1)) (fun x => ([(1, .ptr 0 0), (3, iv x.2), (4, iv k), (5, iv x.1)], [.box [.d (.sl (p.mons.map Mo.c)), .d (.sl (p.roles.map Ro.c))]])) (fun x => p.mons[k].methods.length - x.1) (0, max n 1) ⟨Nat.zero_le _, rfl⟩ (Le.same ⟨rfl, sint (max_eq _ _), rfl, rfl, trivial⟩) (fun x hx => ?_)
    obtain ⟨j, n2⟩ := x
    obtain ⟨hj, hn2⟩ := hx
    dsimp only at hj hn2
    refine SWp.go pok (by kernel_rfl) ?_
    refine Mo.inRow hlt ?_
    refine brP_split (fun h6 => ?_) (fun h6 => ?_)
    · have hltj : j < p.mons[k].methods.length := by simpa using h6
      have hatj : nsMts (p.mons[k].methods.drop j) n2 = nsMts (p.mons[k].methods.drop (j + 1)) (max n2 (St.nsL p.mons[k].methods[j].body 2 2)) := by rw [List.drop_eq_getElem_cons hltj, nsMts]
      refine Mo.inRow hlt ?_
      refine Mt.inRow hltj ?_
      refine PFun.call (rnest_of (hme _ (List.getElem_mem hltj)) 2 (by decide) (by decide)) ?_
      exact ⟨(j + 1, max n2 (St.nsL p.mons[k].methods[j].body 2 2)), ⟨hltj, by rw [← hn2, hatj]⟩, by show p.mons[k].methods.length - (j + 1) < p.mons[k].methods.length - j; omega, Le.same ⟨rfl, sint (max_eq _ _), rfl, sint (wrap_nat j (by omega)), trivial⟩⟩
    · have hgj : j = p.mons[k].methods.length := by simp at h6; omega
      rw [hgj, List.drop_of_length_le (Nat.le_refl _), nsMts] at hn2
      exact ⟨(k + 1, n2), ⟨hlt, by rw [← hnn, hat, ← hn2]⟩, by show p.mons.length - (k + 1) < p.mons.length - k; omega, Le.same ⟨rfl, rfl, sint (wrap_nat k (by omega)), trivial⟩⟩
  have hk' : k = p.mons.length := by simp at h4; omega
  subst hk'
  rw [List.drop_of_length_le (Nat.le_refl _), nsMos] at hnn
  rw [← hnn]
  refine SWp.loop (fun x : Nat × Int => x.1 ≤ p.roles.length ∧ nsRos (p.roles.drop x.1) x.2 = nsRos p.roles n) (fun x => ([(1, .ptr 0 0), (3, iv x.2), (6, iv x.1)], [.box [.d (.sl (p.mons.map Mo.c)), .d (.sl (p.roles.map Ro.c))]])) (fun x => p.roles.length - x.1) (0, n) ⟨Nat.zero_le _, rfl⟩ (Le.same ⟨rfl, rfl, rfl, trivial⟩) (fun x hx => ?_)
  obtain ⟨j, n2⟩ := x
  obtain ⟨hj, hn2⟩ := hx
  dsimp only at hj hn2
  refine SWp.go pok (by kernel_rfl) ?_
  refine brP_split (fun h6 => ?_) (fun h6 => ?_)
  · have hltj : j < p.roles.length := by simpa using h6
    have hatj : nsRos (p.roles.drop j) n2 = nsRos (p.roles.drop (j + 1)) (max n2 (St.nsL p.roles[j].body 1 1)) := by rw [List.drop_eq_getElem_cons hltj, nsRos]
    refine Ro.inRow hltj ?_
    refine PFun.call (rnest_of (hn.role _ (List.getElem_mem hltj)) 1 (by decide) (by decide)) ?_
    exact ⟨(j + 1, max n2 (St.nsL p.roles[j].body 1 1)), ⟨hltj, by rw [← hn2, hatj]⟩, by show p.roles.length - (j + 1) < p.roles.length - j; omega, Le.same ⟨rfl, sint (max_eq _ _), sint (wrap_nat j (by omega)), trivial⟩⟩
  · have hgj : j = p.roles.length := by simp at h6; omega
    subst hgj
    rw [List.drop_of_length_le (Nat.le_refl _), nsRos] at hn2
    exact fin1 (dint hn2)
end Go.Proofs.YtmflfcbebeikcaaGreatDoor.Q

namespace Go.Proofs.YtmflfcbebeikcaaGreatDoor.Q
open Go.RowKit
variable [Amb] [Pow]
theorem refVar_c (v : Vr) (h : VrIs v) (hr : (vrT v 1).length ≤ room) : PFun Tryz.prog 28 [v.v] [] (sv' (vrT v 1)) [] := by
  have hR : room = 140737488355328 := rfl
  have h4 : ([118, 97, 114, 32] : Str).length = 4 := rfl
  refine fn_sem pok 36 0 Tryz.func28 (by kernel_rfl) rfl rfl rfl rfl ?_
  refine SWp.go pok (by kernel_rfl) ?_
  refine PFun.call (digits_all h.init) ?_
  rcases h.kind with ⟨ht, hk⟩ | ⟨ht, hk⟩ | ⟨ht, hk⟩
  · refine brP_false (by simp; omega) ?_
    refine brP_true (by simpa using ht) ?_
    refine brP_split (fun hi => ?_) (fun hi => ?_)
    · have hi : (v.init == 1) = true := hi
      have e1 : vrT v 1 = lnT 1 (((((([118, 97, 114, 32] ++ v.name) ++ [32, 58, 32]) ++ [98, 111, 111, 108]) ++ [32, 61, 32]) ++ [116, 114, 117, 101]) ++ [59]) := by
        unfold vrT vrK lnT
        rw [if_pos ht, hi]
        unfold boolS
        simp
      have hl := hr
      rw [e1] at hl
      unfold lnT at hl
      simp only [List.length_append, List.length_cons, List.length_nil, ind_len] at hl
      refine ⟨by show ([118, 97, 114, 32]).length + (v.name).length ≤ 4611686018427387904; simp only [List.length_append, List.length_cons, List.length_nil]; omega, ?_⟩
      refine ⟨by show (([118, 97, 114, 32] ++ v.name)).length + ([32, 58, 32]).length ≤ 4611686018427387904; simp only [List.length_append, List.length_cons, List.length_nil]; omega, ?_⟩
      refine ⟨by show ((([118, 97, 114, 32] ++ v.name) ++ [32, 58, 32])).length + ([98, 111, 111, 108]).length ≤ 4611686018427387904; simp only [List.length_append, List.length_cons, List.length_nil]; omega, ?_⟩
      refine ⟨by show (((([118, 97, 114, 32] ++ v.name) ++ [32, 58, 32]) ++ [98, 111, 111, 108])).length + ([32, 61, 32]).length ≤ 4611686018427387904; simp only [List.length_append, List.length_cons, List.length_nil]; omega, ?_⟩
      refine ⟨by show ((((([118, 97, 114, 32] ++ v.name) ++ [32, 58, 32]) ++ [98, 111, 111, 108]) ++ [32, 61, 32])).length + ([116, 114, 117, 101]).length ≤ 4611686018427387904; simp only [List.length_append, List.length_cons, List.length_nil]; omega, ?_⟩
      refine ⟨by show (((((([118, 97, 114, 32] ++ v.name) ++ [32, 58, 32]) ++ [98, 111, 111, 108]) ++ [32, 61, 32]) ++ [116, 114, 117, 101])).length + ([59]).length ≤ 4611686018427387904; simp only [List.length_append, List.length_cons, List.length_nil]; omega, ?_⟩
      refine PFun.call (refLine_c 1 (((((([118, 97, 114, 32] ++ v.name) ++ [32, 58, 32]) ++ [98, 111, 111, 108]) ++ [32, 61, 32]) ++ [116, 114, 117, 101]) ++ [59]) (by simp only [List.length_append, List.length_cons, List.length_nil]; omega)) ?_
      exact fin1 (by rw [e1])
    · have hi : (v.init == 1) = false := hi
      have e1 : vrT v 1 = lnT 1 (((((([118, 97, 114, 32] ++ v.name) ++ [32, 58, 32]) ++ [98, 111, 111, 108]) ++ [32, 61, 32]) ++ [102, 97, 108, 115, 101]) ++ [59]) := by
        unfold vrT vrK lnT
        rw [if_pos ht, hi]
        unfold boolS
        simp
      have hl := hr
      rw [e1] at hl
      unfold lnT at hl
      simp only [List.length_append, List.length_cons, List.length_nil, ind_len] at hl
      refine ⟨by show ([118, 97, 114, 32]).length + (v.name).length ≤ 4611686018427387904; simp only [List.length_append, List.length_cons, List.length_nil]; omega, ?_⟩
      refine ⟨by show (([118, 97, 114, 32] ++ v.name)).length + ([32, 58, 32]).length ≤ 4611686018427387904; simp only [List.length_append, List.length_cons, List.length_nil]; omega, ?_⟩
      refine ⟨by show ((([118, 97, 114, 32] ++ v.name) ++ [32, 58, 32])).length + ([98, 111, 111, 108]).length ≤ 4611686018427387904; simp only [List.length_append, List.length_cons, List.length_nil]; omega, ?_⟩
      refine ⟨by show (((([118, 97, 114, 32] ++ v.name) ++ [32, 58, 32]) ++ [98, 111, 111, 108])).length + ([32, 61, 32]).length ≤ 4611686018427387904; simp only [List.length_append, List.length_cons, List.length_nil]; omega, ?_⟩
      refine ⟨by show ((((([118, 97, 114, 32] ++ v.name) ++ [32, 58, 32]) ++ [98, 111, 111, 108]) ++ [32, 61, 32])).length + ([102, 97, 108, 115, 101]).length ≤ 4611686018427387904; simp only [List.length_append, List.length_cons, List.length_nil]; omega, ?_⟩
      refine ⟨by show (((((([118, 97, 114, 32] ++ v.name) ++ [32, 58, 32]) ++ [98, 111, 111, 108]) ++ [32, 61, 32]) ++ [102, 97, 108, 115, 101])).length + ([59]).length ≤ 4611686018427387904; simp only [List.length_append, List.length_cons, List.length_nil]; omega, ?_⟩
      refine PFun.call (refLine_c 1 (((((([118, 97, 114, 32] ++ v.name) ++ [32, 58, 32]) ++ [98, 111, 111, 108]) ++ [32, 61, 32]) ++ [102, 97, 108, 115, 101]) ++ [59]) (by simp only [List.length_append, List.length_cons, List.length_nil]; omega)) ?_
      exact fin1 (by rw [e1])
  · have e1 : vrT v 1 = lnT 1 (((((([118, 97, 114, 32] ++ v.name) ++ [32, 58, 32]) ++ [105, 110, 116]) ++ [32, 61, 32]) ++ Lib.itoa v.init) ++ [59]) := by
      unfold vrT vrK lnT
      rw [if_neg (by omega), if_pos ht]
      simp
    have hl := hr
    rw [e1] at hl
    unfold lnT at hl
    simp only [List.length_append, List.length_cons, List.length_nil, ind_len] at hl
    refine brP_false (by simp; omega) ?_
    refine brP_false (by simp; omega) ?_
    refine ⟨by show ([118, 97, 114, 32]).length + (v.name).length ≤ 4611686018427387904; simp only [List.length_append, List.length_cons, List.length_nil]; omega, ?_⟩
    refine ⟨by show (([118, 97, 114, 32] ++ v.name)).length + ([32, 58, 32]).length ≤ 4611686018427387904; simp only [List.length_append, List.length_cons, List.length_nil]; omega, ?_⟩
    refine ⟨by show ((([118, 97, 114, 32] ++ v.name) ++ [32, 58, 32])).length + ([105, 110, 116]).length ≤ 4611686018427387904; simp only [List.length_append, List.length_cons, List.length_nil]; omega, ?_⟩
    refine ⟨by show (((([118, 97, 114, 32] ++ v.name) ++ [32, 58, 32]) ++ [105, 110, 116])).length + ([32, 61, 32]).length ≤ 4611686018427387904; simp only [List.length_append, List.length_cons, List.length_nil]; omega, ?_⟩
    refine ⟨by show ((((([118, 97, 114, 32] ++ v.name) ++ [32, 58, 32]) ++ [105, 110, 116]) ++ [32, 61, 32])).length + (Lib.itoa v.init).length ≤ 4611686018427387904; simp only [List.length_append, List.length_cons, List.length_nil]; omega, ?_⟩
    refine ⟨by show (((((([118, 97, 114, 32] ++ v.name) ++ [32, 58, 32]) ++ [105, 110, 116]) ++ [32, 61, 32]) ++ Lib.itoa v.init)).length + ([59]).length ≤ 4611686018427387904; simp only [List.length_append, List.length_cons, List.length_nil]; omega, ?_⟩
    refine PFun.call (refLine_c 1 (((((([118, 97, 114, 32] ++ v.name) ++ [32, 58, 32]) ++ [105, 110, 116]) ++ [32, 61, 32]) ++ Lib.itoa v.init) ++ [59]) (by simp only [List.length_append, List.length_cons, List.length_nil]; omega)) ?_
    exact fin1 (by rw [e1])
  · have e1 : vrT v 1 = lnT 1 (((((([118, 97, 114, 32] ++ v.name) ++ [32, 58, 32]) ++ (Lib.itoa v.lo ++ [46, 46] ++ Lib.itoa v.hi)) ++ [32, 61, 32]) ++ Lib.itoa v.init) ++ [59]) := by
      unfold vrT vrK lnT
      rw [if_neg (by omega), if_neg (by omega)]
      simp
    have hl := hr
    rw [e1] at hl
    unfold lnT at hl
    simp only [List.length_append, List.length_cons, List.length_nil, ind_len] at hl
    refine brP_true (by simpa using ht) ?_
    refine ⟨_, _, digits_all h.lo, ?_⟩
    refine ⟨by show (Lib.itoa v.lo).length + ([46, 46]).length ≤ 4611686018427387904; simp only [List.length_append, List.length_cons, List.length_nil]; omega, ?_⟩
    refine ⟨_, _, digits_all h.hi, ?_⟩
    refine ⟨by show (Lib.itoa v.lo ++ [46, 46]).length + (Lib.itoa v.hi).length ≤ 4611686018427387904; simp only [List.length_append, List.length_cons, List.length_nil]; omega, ?_⟩
    refine brP_false (by simp; omega) ?_
    refine ⟨by show ([118, 97, 114, 32]).length + (v.name).length ≤ 4611686018427387904; simp only [List.length_append, List.length_cons, List.length_nil]; omega, ?_⟩
    refine ⟨by show (([118, 97, 114, 32] ++ v.name)).length + ([32, 58, 32]).length ≤ 4611686018427387904; simp only [List.length_append, List.length_cons, List.length_nil]; omega, ?_⟩
    refine ⟨by show ((([118, 97, 114, 32] ++ v.name) ++ [32, 58, 32])).length + ((Lib.itoa v.lo ++ [46, 46] ++ Lib.itoa v.hi)).length ≤ 4611686018427387904; simp only [List.length_append, List.length_cons, List.length_nil]; omega, ?_⟩
    refine ⟨by show (((([118, 97, 114, 32] ++ v.name) ++ [32, 58, 32]) ++ (Lib.itoa v.lo ++ [46, 46] ++ Lib.itoa v.hi))).length + ([32, 61, 32]).length ≤ 4611686018427387904; simp only [List.length_append, List.length_cons, List.length_nil]; omega, ?_⟩
    refine ⟨by show ((((([118, 97, 114, 32] ++ v.name) ++ [32, 58, 32]) ++ (Lib.itoa v.lo ++ [46, 46] ++ Lib.itoa v.hi)) ++ [32, 61, 32])).length + (Lib.itoa v.init).length ≤ 4611686018427387904; simp only [List.length_append, List.length_cons, List.length_nil]; omega, ?_⟩
    refine ⟨by show (((((([118, 97, 114, 32] ++ v.name) ++ [32, 58, 32]) ++ (Lib.itoa v.lo ++ [46, 46] ++ Lib.itoa v.hi)) ++ [32, 61, 32]) ++ Lib.itoa v.init)).length + ([59]).length ≤ 4611686018427387904; simp only [List.length_append, List.length_cons, List.length_nil]; omega, ?_⟩
    refine PFun.call (refLine_c 1 (((((([118, 97, 114, 32] ++ v.name) ++ [32, 58, 32]) ++ (Lib.itoa v.lo ++ [46, 46] ++ Lib.itoa v.hi)) ++ [32, 61, 32]) ++ Lib.itoa v.init) ++ [59]) (by simp only [List.length_append, List.length_cons, List.length_nil]; omega)) ?_
    exact fin1 (by rw [e1])
theorem refStmts_c (l : List St) (o : Nat) (hl : l.length < 1073741824) (hP : ∀ y ∈ l, StP y) (hK : ∀ y ∈ l, StK y) (hb : (St.txL l o).length ≤ room) :
    PFun Tryz.prog 29 [.d (.sl (l.map St.c)), iv o] [] (sv' (St.txL l o)) [] :=
  refStmts_of l o hl (fun y hy => refStmt_c (hP y hy) (hK y hy) o (by have := txL_mem (o := o) hy; omega)) hb
theorem mtT_eq (f : Mt) : mtT f 1 = (lnT 1 (([109, 101, 116, 104, 111, 100, 32] ++ f.name) ++ [32, 123]) ++ St.txL f.body 2) ++ lnT 1 [125] := by
  unfold mtT blockT lnT
  rw [St.txL_cat]
  simp
theorem roT_eq (r : Ro) : roT r 0 = (lnT 0 ((([116, 104, 114, 101, 97, 100, 32] ++ r.name ++ [32]) ++ (if r.star = true then [42] else Lib.itoa r.count)) ++ [32, 123]) ++ St.txL r.body 1) ++ lnT 0 [125] := by
  unfold roT blockT lnT
  rw [St.txL_cat]
  simp
theorem moT_eq (m : Mo) : moT m 0 = ((lnT 0 ([109, 111, 110, 105, 116, 111, 114, 32] ++ m.name ++ [32, 123]) ++ catG (fun v => vrT v 1) m.vars) ++ catG (fun f => mtT f 1) m.methods) ++ lnT 0 [125] := by
  unfold moT moH lnT
  simp
theorem lnT_len (o : Nat) (s : Str) : (lnT o s).length = 2 * o + s.length + 1 := by
  unfold lnT
  simp only [List.length_append, ind_len, List.length_cons, List.length_nil]
  omega
theorem refText_c (p : Pg) (A : PgAll p) (hv : ∀ m ∈ p.mons, ∀ v ∈ m.vars, VrP v) : PFun Tryz.prog 8 [p.v] [] (.tup [sv' (textP p).1, iv (textP p).2]) [] := by
  unfold textP
  refine fn_sem pok 121 0 Tryz.func8 (by kernel_rfl) rfl rfl rfl rfl ?_
  refine SWp.go pok (by kernel_rfl) ?_
  refine PFun.call (refIs_c p A.f hv) ?_
  refine brP_split (fun h => ?_) (fun h => ?_)
  · have h0 : checkP p = 20 := by unfold checkP; rw [if_neg (by simpa using h)]
    rw [if_pos (by rw [h0]; decide), h0]
    exact fin1 rfl
  have hok : p.ok = true := by simpa using h
  have h : checkP p = 0 := by unfold checkP; rw [if_pos hok]
  rw [if_neg (fun k => k h)]
  refine PFun.call (refNest_c p A.f hv A.n) ?_
  refine brP_split (fun h2 => ?_) (fun h2 => ?_)
  · have h2 : nestPg p > 64 := by simpa using h2
    rw [if_pos h2]
    exact fin1 rfl
  have h2 : ¬ nestPg p > 64 := by simp at h2; omega
  rw [if_neg h2]
  obtain ⟨hP, hlen⟩ := A.p h
  have hK := A.k h
  have hO := ok_is hok
  have hml := hP.mlen
  have hrl := hP.rlen
  have hR : room = 140737488355328 := rfl
  unfold textS at hlen ⊢
  rw [List.length_append] at hlen
  refine SWp.loop (fun k : Nat => k ≤ p.mons.length) (fun k => ([(1, .ptr 0 0), (4, sv' (catG (fun m => moT m 0) (p.mons.take k))), (5, iv k)], [.box [.d (.sl (p.mons.map Mo.c)), .d (.sl (p.roles.map Ro.c))]])) (fun k => p.mons.length - k) 0 (Nat.zero_le _) (Le.same ⟨rfl, rfl, rfl, trivial⟩) (fun k hk => ?_)
  refine SWp.go pok (by kernel_rfl) ?_
  refine brP_split (fun h4 => ?_) (fun h4 => ?_)
  · have hlt : k < p.mons.length := by simpa using h4
    have hm := List.getElem_mem hlt
    have e := catG_take (fun m => moT m 0) hlt
    have hle := catG_le (fun m => moT m 0) p.mons (k + 1)
    rw [e, List.length_append] at hle
    have hmP := hP.mons _ hm
    have hvl := hmP.vlen
    have hme := hmP.mlen
    try dsimp only at e hle
    rw [moT_eq] at e hle
    have hvr := fun (j : Nat) (hj : j < p.mons[k].vars.length) => vr_is ((hO.mons _ hm).2.1 _ (List.getElem_mem hj)) (hmP.vars _ (List.getElem_mem hj))
    have hst := fun (j : Nat) (hj : j < p.mons[k].methods.length) => refStmts_c p.mons[k].methods[j].body 2 (hmP.meths _ (List.getElem_mem hj)).len (hmP.meths _ (List.getElem_mem hj)).body (hK.meths _ hm _ (List.getElem_mem hj))
    generalize catG (fun m => moT m 0) (p.mons.take k) = S0 at *
    have hl0 := hle
    simp only [List.length_append, lnT_len, List.length_cons, List.length_nil] at hl0
    refine Mo.inRow hlt ?_
    refine ⟨by show ([109, 111, 110, 105, 116, 111, 114, 32] : Str).length + (p.mons[k].name).length ≤ 4611686018427387904; simp only [List.length_append, List.length_cons, List.length_nil]; omega, ?_⟩
    refine ⟨by show ([109, 111, 110, 105, 116, 111, 114, 32] ++ p.mons[k].name).length + ([32, 123] : Str).length ≤ 4611686018427387904; simp only [List.length_append, List.length_cons, List.length_nil]; omega, ?_⟩
    refine PFun.call (refLine_c 0 ([109, 111, 110, 105, 116, 111, 114, 32] ++ p.mons[k].name ++ [32, 123]) (by simp only [List.length_append, List.length_cons, List.length_nil]; omega)) ?_
    refine ⟨by show S0.length + (lnT 0 ([109, 111, 110, 105, 116, 111, 114, 32] ++ p.mons[k].name ++ [32, 123])).length ≤ 4611686018427387904; rw [lnT_len]; simp only [List.length_append, List.length_cons, List.length_nil]; omega, ?_⟩
    refine SWp.loop (fun j : Nat => j ≤ p.mons[k].vars.length) (fun j => ([(1, .ptr 0 0), (4, sv' ((S0 ++ lnT 0 ([109, 111, 110, 105, 116, 111, 114, 32] ++ p.mons[k].name ++ [32, 123])) ++ catG (fun v => vrT v 1) (p.mons[k].vars.take j))), (5, iv k), (6, .ptr 1 0), (7, iv j)], [.box [.d (.sl (p.mons.map Mo.c)), .d (.sl (p.roles.map Ro.c))], (.box [sv' p.mons[k].name, .d (.sl (p.mons[k].vars.map Vr.c)), .d (.sl (p.mons[k].methods.map Mt.c)), iv p.mons[k].pl])])) (fun j => p.mons[k].vars.length - j) 0 (Nat.zero_le _) (Le.same ⟨rfl, sv (by rw [List.take_zero, catG, List.append_nil]), rfl, rfl, rfl, trivial⟩) (fun j hj => ?_)
    refine SWp.go pok (by kernel_rfl) ?_
    refine brP_split (fun h5 => ?_) (fun h5 => ?_)
    · have hlj : j < p.mons[k].vars.length := by simpa using h5
      have ej := catG_take (fun v => vrT v 1) hlj
      have hlej := catG_le (fun v => vrT v 1) p.mons[k].vars (j + 1)
      rw [ej, List.length_append] at hlej
      try dsimp only at hlej ej
      refine PIdx.map (get_at hlj) ?_
      refine PFun.call (refVar_c p.mons[k].vars[j] (hvr j hlj) (by omega)) ?_
      refine ⟨by show ((S0 ++ lnT 0 ([109, 111, 110, 105, 116, 111, 114, 32] ++ p.mons[k].name ++ [32, 123])) ++ catG (fun v => vrT v 1) (p.mons[k].vars.take j)).length + (vrT p.mons[k].vars[j] 1).length ≤ 4611686018427387904; simp only [List.length_append, lnT_len, List.length_cons, List.length_nil]; omega, ?_⟩
      exact ⟨j + 1, hlj, by omega, Le.same ⟨rfl, sv (by rw [ej, List.append_assoc]), rfl, rfl, sint (wrap_nat j (by omega)), trivial⟩⟩
    have hje : j = p.mons[k].vars.length := by simp at h5; omega
    subst hje
    rw [List.take_length]
    generalize catG (fun v => vrT v 1) p.mons[k].vars = S1 at *
    refine SWp.loop (fun j : Nat => j ≤ p.mons[k].methods.length) (fun j => ([(1, .ptr 0 0), (4, sv' (((S0 ++ lnT 0 ([109, 111, 110, 105, 116, 111, 114, 32] ++ p.mons[k].name ++ [32, 123])) ++ S1) ++ catG (fun f => mtT f 1) (p.mons[k].methods.take j))), (5, iv k), (6, .ptr 1 0), (8, iv j)], [.box [.d (.sl (p.mons.map Mo.c)), .d (.sl (p.roles.map Ro.c))], (.box [sv' p.mons[k].name, .d (.sl (p.mons[k].vars.map Vr.c)), .d (.sl (p.mons[k].methods.map Mt.c)), iv p.mons[k].pl])])) (fun j => p.mons[k].methods.length - j) 0 (Nat.zero_le _) (Le.same ⟨rfl, sv (by rw [List.take_zero, catG, List.append_nil]), rfl, rfl, rfl, trivial⟩) (fun j hj2 => ?_)
    refine SWp.go pok (by kernel_rfl) ?_
    refine brP_split (fun h6 => ?_) (fun h6 => ?_)
    · have hlj : j < p.mons[k].methods.length := by simpa using h6
      have ej := catG_take (fun f => mtT f 1) hlj
      have hlej := catG_le (fun f => mtT f 1) p.mons[k].methods (j + 1)
      rw [ej, List.length_append] at hlej
      try dsimp only at hlej ej
      rw [mtT_eq] at hlej ej
      have cS := hst j hlj (by simp only [List.length_append] at hlej; omega)
      simp only [List.length_append, lnT_len, List.length_cons, List.length_nil] at hlej
      refine PIdx.map (get_at hlj) ?_
      refine ⟨by show (([109, 101, 116, 104, 111, 100, 32] : Str)).length + (p.mons[k].methods[j].name).length ≤ 4611686018427387904; simp only [List.length_append, lnT_len, List.length_cons, List.length_nil]; omega, ?_⟩
      refine ⟨by show ([109, 101, 116, 104, 111, 100, 32] ++ p.mons[k].methods[j].name).length + (([32, 123] : Str)).length ≤ 4611686018427387904; simp only [List.length_append, lnT_len, List.length_cons, List.length_nil]; omega, ?_⟩
      refine ⟨_, _, refLine_c 1 ([109, 101, 116, 104, 111, 100, 32] ++ p.mons[k].methods[j].name ++ [32, 123]) (by simp only [List.length_append, lnT_len, List.length_cons, List.length_nil]; omega), ?_⟩
      refine ⟨by show (((S0 ++ lnT 0 ([109, 111, 110, 105, 116, 111, 114, 32] ++ p.mons[k].name ++ [32, 123])) ++ S1) ++ catG (fun f => mtT f 1) (p.mons[k].methods.take j)).length + (lnT 1 ([109, 101, 116, 104, 111, 100, 32] ++ p.mons[k].methods[j].name ++ [32, 123])).length ≤ 4611686018427387904; simp only [List.length_append, lnT_len, List.length_cons, List.length_nil]; omega, ?_⟩
      refine PIdx.map (get_at hlj) ?_
      refine ⟨_, _, cS, ?_⟩
      refine ⟨by show (((S0 ++ lnT 0 ([109, 111, 110, 105, 116, 111, 114, 32] ++ p.mons[k].name ++ [32, 123])) ++ S1) ++ catG (fun f => mtT f 1) (p.mons[k].methods.take j) ++ lnT 1 ([109, 101, 116, 104, 111, 100, 32] ++ p.mons[k].methods[j].name ++ [32, 123])).length + (St.txL p.mons[k].methods[j].body 2).length ≤ 4611686018427387904; simp only [List.length_append, lnT_len, List.length_cons, List.length_nil]; omega, ?_⟩
      refine ⟨_, _, refLine_c 1 [125] (by simp only [List.length_append, lnT_len, List.length_cons, List.length_nil]; omega), ?_⟩
      refine ⟨by show (((S0 ++ lnT 0 ([109, 111, 110, 105, 116, 111, 114, 32] ++ p.mons[k].name ++ [32, 123])) ++ S1) ++ catG (fun f => mtT f 1) (p.mons[k].methods.take j) ++ lnT 1 ([109, 101, 116, 104, 111, 100, 32] ++ p.mons[k].methods[j].name ++ [32, 123]) ++ St.txL p.mons[k].methods[j].body 2).length + (lnT 1 [125]).length ≤ 4611686018427387904; simp only [List.length_append, lnT_len, List.length_cons, List.length_nil]; omega, ?_⟩
      exact ⟨j + 1, hlj, by omega, Le.same ⟨rfl, sv (by rw [ej]; simp only [List.append_assoc]), rfl, rfl, sint (wrap_nat j (by omega)), trivial⟩⟩
    have hje : j = p.mons[k].methods.length := by simp at h6; omega
    subst hje
    rw [List.take_length]
    refine PFun.call (refLine_c 0 [125] (by simp only [List.length_append, List.length_cons, List.length_nil]; omega)) ?_
    refine ⟨by show (((S0 ++ lnT 0 ([109, 111, 110, 105, 116, 111, 114, 32] ++ p.mons[k].name ++ [32, 123])) ++ S1) ++ catG (fun f => mtT f 1) p.mons[k].methods).length + (lnT 0 [125]).length ≤ 4611686018427387904; simp only [List.length_append, lnT_len, List.length_cons, List.length_nil]; omega, ?_⟩
    exact ⟨k + 1, hlt, by omega, .inr ⟨[0], ⟨rfl, rfl⟩, rfl, rfl, sv (by rw [e]; simp only [List.append_assoc]), sint (wrap_nat k (by omega)), trivial⟩⟩
  have hk' : k = p.mons.length := by simp at h4; omega
  subst hk'
  rw [List.take_length]
  generalize catG (fun m => moT m 0) p.mons = S0 at *
  refine SWp.loop (fun k : Nat => k ≤ p.roles.length) (fun k => ([(1, .ptr 0 0), (4, sv' (S0 ++ catG (fun r => roT r 0) (p.roles.take k))), (9, iv k)], [.box [.d (.sl (p.mons.map Mo.c)), .d (.sl (p.roles.map Ro.c))]])) (fun k => p.roles.length - k) 0 (Nat.zero_le _) (Le.same ⟨rfl, sv (by rw [List.take_zero, catG, List.append_nil]), rfl, trivial⟩) (fun k hk2 => ?_)
  refine SWp.go pok (by kernel_rfl) ?_
  refine brP_split (fun h6 => ?_) (fun h6 => ?_)
  · have hlt : k < p.roles.length := by simpa using h6
    have hm := List.getElem_mem hlt
    have e := catG_take (fun r => roT r 0) hlt
    have hle := catG_le (fun r => roT r 0) p.roles (k + 1)
    rw [e, List.length_append] at hle
    have hrP := hP.roles _ hm
    have hcnt : R64 p.roles[k].count ∧ p.roles[k].count ≠ -9223372036854775808 := ⟨hrP.count, by have := (hO.roles _ hm).2.1; omega⟩
    try dsimp only at e hle
    rw [roT_eq] at e hle
    have hst := refStmts_c p.roles[k].body 1 hrP.len hrP.body (hK.roles _ hm).2
    refine Ro.inRow hlt ?_
    refine brP_split (fun h7 => ?_) (fun h7 => ?_)
    · have h7 : p.roles[k].star = false := by simpa using h7
      rw [if_neg (by rw [h7]; simp)] at e hle
      have cS := hst (by simp only [List.length_append] at hle; omega)
      simp only [List.length_append, lnT_len, List.length_cons, List.length_nil] at hle
      refine PFun.call (digits_all hcnt) ?_
      refine ⟨by show (([116, 104, 114, 101, 97, 100, 32] : Str)).length + (p.roles[k].name).length ≤ 4611686018427387904; simp only [List.length_append, lnT_len, List.length_cons, List.length_nil]; omega, ?_⟩
      refine ⟨by show ([116, 104, 114, 101, 97, 100, 32] ++ p.roles[k].name).length + (([32] : Str)).length ≤ 4611686018427387904; simp only [List.length_append, lnT_len, List.length_cons, List.length_nil]; omega, ?_⟩
      refine ⟨by show (([116, 104, 114, 101, 97, 100, 32] ++ p.roles[k].name ++ [32] : Str)).length + ((Lib.itoa p.roles[k].count : Str)).length ≤ 4611686018427387904; simp only [List.length_append, lnT_len, List.length_cons, List.length_nil]; omega, ?_⟩
      refine ⟨by show ((([116, 104, 114, 101, 97, 100, 32] ++ p.roles[k].name ++ [32]) ++ Lib.itoa p.roles[k].count : Str)).length + (([32, 123] : Str)).length ≤ 4611686018427387904; simp only [List.length_append, lnT_len, List.length_cons, List.length_nil]; omega, ?_⟩
      refine ⟨_, _, refLine_c 0 ((([116, 104, 114, 101, 97, 100, 32] ++ p.roles[k].name ++ [32]) ++ Lib.itoa p.roles[k].count) ++ [32, 123]) (by simp only [List.length_append, lnT_len, List.length_cons, List.length_nil]; omega), ?_⟩
      refine ⟨by show (S0 ++ catG (fun r => roT r 0) (p.roles.take k)).length + (lnT 0 ((([116, 104, 114, 101, 97, 100, 32] ++ p.roles[k].name ++ [32]) ++ Lib.itoa p.roles[k].count) ++ [32, 123])).length ≤ 4611686018427387904; simp only [List.length_append, lnT_len, List.length_cons, List.length_nil]; omega, ?_⟩
      refine ⟨_, _, cS, ?_⟩
      refine ⟨by show (S0 ++ catG (fun r => roT r 0) (p.roles.take k) ++ lnT 0 ((([116, 104, 114, 101, 97, 100, 32] ++ p.roles[k].name ++ [32]) ++ Lib.itoa p.roles[k].count) ++ [32, 123])).length + (St.txL p.roles[k].body 1).length ≤ 4611686018427387904; simp only [List.length_append, lnT_len, List.length_cons, List.length_nil]; omega, ?_⟩
      refine ⟨_, _, refLine_c 0 [125] (by simp only [List.length_append, lnT_len, List.length_cons, List.length_nil]; omega), ?_⟩
      refine ⟨by show (S0 ++ catG (fun r => roT r 0) (p.roles.take k) ++ lnT 0 ((([116, 104, 114, 101, 97, 100, 32] ++ p.roles[k].name ++ [32]) ++ Lib.itoa p.roles[k].count) ++ [32, 123]) ++ St.txL p.roles[k].body 1).length + (lnT 0 [125]).length ≤ 4611686018427387904; simp only [List.length_append, lnT_len, List.length_cons, List.length_nil]; omega, ?_⟩
      exact ⟨k + 1, hlt, by omega, .inr ⟨[0], ⟨rfl, rfl⟩, rfl, rfl, sv (by rw [e]; simp only [List.append_assoc]), sint (wrap_nat k (by omega)), trivial⟩⟩
    · have h7 : p.roles[k].star = true := by simpa using h7
      rw [if_pos h7] at e hle
      have cS := hst (by simp only [List.length_append] at hle; omega)
      simp only [List.length_append, lnT_len, List.length_cons, List.length_nil] at hle
      refine ⟨by show (([116, 104, 114, 101, 97, 100, 32] : Str)).length + (p.roles[k].name).length ≤ 4611686018427387904; simp only [List.length_append, lnT_len, List.length_cons, List.length_nil]; omega, ?_⟩
      refine ⟨by show ([116, 104, 114, 101, 97, 100, 32] ++ p.roles[k].name).length + (([32] : Str)).length ≤ 4611686018427387904; simp only [List.length_append, lnT_len, List.length_cons, List.length_nil]; omega, ?_⟩
      refine ⟨by show (([116, 104, 114, 101, 97, 100, 32] ++ p.roles[k].name ++ [32] : Str)).length + (([42] : Str)).length ≤ 4611686018427387904; simp only [List.length_append, lnT_len, List.length_cons, List.length_nil]; omega, ?_⟩
      refine ⟨by show ((([116, 104, 114, 101, 97, 100, 32] ++ p.roles[k].name ++ [32]) ++ [42] : Str)).length + (([32, 123] : Str)).length ≤ 4611686018427387904; simp only [List.length_append, lnT_len, List.length_cons, List.length_nil]; omega, ?_⟩
      refine ⟨_, _, refLine_c 0 ((([116, 104, 114, 101, 97, 100, 32] ++ p.roles[k].name ++ [32]) ++ [42]) ++ [32, 123]) (by simp only [List.length_append, lnT_len, List.length_cons, List.length_nil]; omega), ?_⟩
      refine ⟨by show (S0 ++ catG (fun r => roT r 0) (p.roles.take k)).length + (lnT 0 ((([116, 104, 114, 101, 97, 100, 32] ++ p.roles[k].name ++ [32]) ++ [42]) ++ [32, 123])).length ≤ 4611686018427387904; simp only [List.length_append, lnT_len, List.length_cons, List.length_nil]; omega, ?_⟩
      refine ⟨_, _, cS, ?_⟩
      refine ⟨by show (S0 ++ catG (fun r => roT r 0) (p.roles.take k) ++ lnT 0 ((([116, 104, 114, 101, 97, 100, 32] ++ p.roles[k].name ++ [32]) ++ [42]) ++ [32, 123])).length + (St.txL p.roles[k].body 1).length ≤ 4611686018427387904; simp only [List.length_append, lnT_len, List.length_cons, List.length_nil]; omega, ?_⟩
      refine ⟨_, _, refLine_c 0 [125] (by simp only [List.length_append, lnT_len, List.length_cons, List.length_nil]; omega), ?_⟩
      refine ⟨by show (S0 ++ catG (fun r => roT r 0) (p.roles.take k) ++ lnT 0 ((([116, 104, 114, 101, 97, 100, 32] ++ p.roles[k].name ++ [32]) ++ [42]) ++ [32, 123]) ++ St.txL p.roles[k].body 1).length + (lnT 0 [125]).length ≤ 4611686018427387904; simp only [List.length_append, lnT_len, List.length_cons, List.length_nil]; omega, ?_⟩
      exact ⟨k + 1, hlt, by omega, .inr ⟨[0], ⟨rfl, rfl⟩, rfl, rfl, sv (by rw [e]; simp only [List.append_assoc]), sint (wrap_nat k (by omega)), trivial⟩⟩
  have hk' : k = p.roles.length := by simp at h6; omega
  subst hk'
  rw [List.take_length]
  unfold toldS
  refine brP_split (fun h8 => ?_) (fun h8 => ?_)
  · rw [if_pos (by simp only [List.length_append]; simp at h8; omega)]
    exact fin1 rfl
  · rw [if_neg (by simp only [List.length_append]; simp at h8; omega)]
    exact fin1 rfl
end Go.Proofs.YtmflfcbebeikcaaGreatDoor.Q

namespace Go.Proofs.YtmflfcbebeikcaaGreatDoor.Q
open Go.RowKit
variable [Amb] [Pow]
theorem printTexts_t (p : Pg) (hp : PgNum p) : PFun Tryz.prog 3 [p.v] [] (.d (.bool true)) [] := by
  refine fn_sem pok 40 0 Tryz.func3 (by kernel_rfl) rfl rfl rfl rfl ?_
  refine SWp.go pok (by kernel_rfl) ?_
  refine PCalls.mono (small02_c p 400 (by decide) (by decide)) ?_
  rintro r h' ⟨b, rfl, rfl, hb⟩
  cases b with
  | false => exact PFun.call live03_c (fin1 rfl)
  | true =>
  have A := (hb rfl).all hp
  have hv : ∀ m ∈ p.mons, ∀ v ∈ m.vars, VrP v := fun m hm v hv => ⟨((hp.1 m hm).1 v hv).1, ((hp.1 m hm).1 v hv).2.1, ((hp.1 m hm).1 v hv).2.2⟩
  have c3 := num03_c (textP p).2
  have c4 := nestPg_c p A.f A.n
  have c5 := refNest_c p A.f hv A.n
  refine PFun.call (text_c p A.f A.n A.p) ?_
  refine PFun.call (refText_c p A hv) ?_
  refine brP_true (by simp) ?_
  repeat' first
    | refine brP_true (by simp) ?_
    | refine PFun.call c3 ?_
    | refine ⟨_, _, c3, ?_⟩
    | refine PFun.call c4 ?_
    | refine ⟨_, _, c4, ?_⟩
    | refine PFun.call c5 ?_
    | refine ⟨_, _, c5, ?_⟩
    | refine PFun.call live03_c ?_
    | refine ⟨_, _, live03_c, ?_⟩
  exact fin1 rfl
end Go.Proofs.YtmflfcbebeikcaaGreatDoor.Q
