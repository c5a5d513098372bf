/- Values: what expressions come to; that their sums are worth the same. No condition. -/
import Derived.Test.YtlafnhpmhflnaaaMI
import Derived.Test.YtlafnhpmhflnaaaMH
set_option linter.unusedVariables false
set_option linter.unusedSectionVars false
set_option linter.unnecessarySimpa false
set_option linter.unusedSimpArgs false
set_option maxRecDepth 100000
set_option maxHeartbeats 4000000
namespace Go.Proofs.Ytlafnhpmhflnaaa.Q
open Go.RowKit
variable [Amb]
def flagS (b : Bool) : Int := bif b then 1 else 0
theorem flagS_r (b : Bool) : R64 (flagS b) := by cases b <;> (unfold R64; decide)
theorem flag_c (b : Bool) : PFun Try.prog 81 [.d (.bool b)] [] (iv (flagS b)) [] := by
  refine fn_sem pok 4 0 Try.func81 (by kernel_rfl) rfl rfl rfl rfl ?_
  refine SWp.go pok (by kernel_rfl) ?_
  refine brP_split (fun h => ?_) (fun h => ?_)
  · exact fin1 (by rw [h]; rfl)
  · exact fin1 (by rw [h]; rfl)
/-- What joins two numbers. -/
def joinS (op a b : Int) : Int × Bool :=
  if op = 8 then addS a b else if op = 9 then subS a b else
  if op = 10 then (flagS (decide (a = b)), true) else if op = 11 then (flagS (decide (a ≠ b)), true) else
  if op = 12 then (flagS (decide (a < b)), true) else if op = 13 then (flagS (decide (a ≤ b)), true) else
  if op = 14 then (flagS (decide (a > b)), true) else (flagS (decide (a ≥ b)), true)
theorem joinS_r (op a b : Int) : R64 (joinS op a b).1 := by
  unfold joinS
  repeat' split
  all_goals first | exact told_r _ | exact flagS_r _
theorem join_c (op a b : Int) (ha : R64 a) (hb : R64 b) : PFun Try.prog 84 [iv op, iv a, iv b] [] (ib (joinS op a b)) [] := by
  refine fn_sem pok 57 0 Try.func84 (by kernel_rfl) rfl rfl rfl rfl ?_
  refine SWp.go pok (by kernel_rfl) ?_
  unfold joinS
  refine brP_split (fun h => ?_) (fun h => ?_)
  · have h : op = 8 := by simpa using h
    refine PFun.call (numAdd_c a b ha hb) ?_
    exact fin1 (by rw [if_pos h]; rfl)
  have h8 : ¬ op = 8 := by simpa using h
  rw [if_neg h8]
  refine brP_split (fun h => ?_) (fun h => ?_)
  · have h : op = 9 := by simpa using h
    refine PFun.call (numSub_c a b ha hb) ?_
    exact fin1 (by rw [if_pos h]; rfl)
  have h9 : ¬ op = 9 := by simpa using h
  rw [if_neg h9]
  repeat' first
    | refine brP_split (fun h => ?_) (fun h => ?_)
    | refine PFun.call (flag_c _) ?_
  all_goals
    refine fin1 ?_
    simp only [decide_eq_true_eq, decide_eq_false_iff_not, beq_iff_eq, bne_iff_ne, ne_eq] at *
    simp only [*, if_true, if_false, ib, flagS]
    simp_all
    try omega
/-- The reckoner. -/
def rkB (p : Pg) (vals : List Int) (f : Bool) : Ob := .box [.d (.sl (p.mons.map Mo.c)), .d (.sl (p.roles.map Ro.c)), ils vals, .d (.bool f)]
def toldS (q : Int × Bool) : Int × Bool := (if q.2 = true then q.1 else 0, !q.2)
theorem told_c (p : Pg) (vals : List Int) (q : Int × Bool) : PFun Try.prog 82 [.ptr 0 0, iv q.1, .d (.bool q.2)] [rkB p vals false] (iv (toldS q).1) [rkB p vals (toldS q).2] := by
  refine fn_sem pok 13 1 Try.func82 (by kernel_rfl) rfl rfl rfl rfl ?_
  refine SWp.go pok (by kernel_rfl) ?_
  unfold toldS
  refine brP_split (fun h => ?_) (fun h => ?_)
  · exact ⟨by rw [show q.2 = false by simpa using h]; rfl, by rw [show q.2 = false by simpa using h]; rfl⟩
  · exact ⟨by rw [show q.2 = true by simpa using h]; rfl, by rw [show q.2 = true by simpa using h]; rfl⟩
/-- What an expression of two parts comes to, out of what the parts come to: the number, and whether something was beyond its bounds. -/
def runTwo (op : Int) (a : Int × Bool) (b : Int × Bool) : Int × Bool :=
  if a.2 = true then (0, true) else if op = 16 ∧ a.1 = 0 then (0, false) else if op = 17 ∧ a.1 ≠ 0 then (1, false) else
  if op = 16 ∨ op = 17 then b else if b.2 = true then (0, true) else toldS (joinS op a.1 b.1)
def runOne (op n : Int) (a : Int × Bool) : Int × Bool :=
  if a.2 = true then (0, true) else if op = 5 then (flagS (decide (a.1 = 0)), false) else if op = 6 then toldS (negS a.1) else toldS (mulS n a.1)
def runK (op n v : Int) (l : List (Int × Bool)) : Int × Bool :=
  if op = 1 then (n, false) else if op = 2 then (1, false) else if op = 3 then (0, false) else if op = 4 then (v, false) else
  if op = 5 ∨ op = 6 ∨ op = 7 then runOne op n (l.getD 0 (0, false)) else runTwo op (l.getD 0 (0, false)) (l.getD 1 (0, false))
mutual
def Ex.run (p : Pg) (vals : List Int) : Ex → Int × Bool
  | ⟨op, mon, name, n, kids, pl⟩ => runK op n (vals.getD (slotS p mon name).1.toNat 0) (Ex.runs p vals kids)
def Ex.runs (p : Pg) (vals : List Int) : List Ex → List (Int × Bool)
  | [] => []
  | x :: r => x.run p vals :: Ex.runs p vals r
end
theorem Ex.runs_map (p : Pg) (vals : List Int) : ∀ l : List Ex, Ex.runs p vals l = l.map (Ex.run p vals)
  | [] => by simp [Ex.runs]
  | x :: r => by rw [Ex.runs, Ex.runs_map p vals r]; rfl
theorem Ex.run_eq (p : Pg) (vals : List Int) (x : Ex) : x.run p vals = runK x.op x.n (vals.getD (slotS p x.mon x.name).1.toNat 0) (x.kids.map (Ex.run p vals)) := by cases x; rw [Ex.run, Ex.runs_map]
theorem toldS_r {q : Int × Bool} (h : R64 q.1) : R64 (toldS q).1 := by
  unfold toldS; split
  · exact h
  · show R64 0; unfold R64; decide
theorem runOne_r (op n : Int) (a : Int × Bool) : R64 (runOne op n a).1 := by
  unfold runOne
  repeat' split
  all_goals first | exact toldS_r (told_r _) | exact flagS_r _ | (unfold R64; decide)
theorem runTwo_r {op : Int} {a b : Int × Bool} (h : R64 b.1) : R64 (runTwo op a b).1 := by
  unfold runTwo
  repeat' split
  all_goals first | exact h | exact toldS_r (joinS_r _ _ _) | (unfold R64; decide)
theorem getD_r {l : List Int} (h : I64 l) (k : Nat) : R64 (l.getD k 0) := by
  rw [List.getD_eq_getElem?_getD]
  cases e : l[k]? with
  | none => unfold R64; decide
  | some n => exact h n (List.mem_of_getElem? e)
theorem run_r {p : Pg} {vals : List Int} (hv : I64 vals) (N : Nat) : ∀ x : Ex, x.pre.length ≤ N → x.nums → R64 (x.run p vals).1 := by
  induction N with
  | zero => intro x h; have := x.pre_pos; omega
  | succ N ih =>
    intro x hN hx
    have hm : ∀ q ∈ x.kids.map (Ex.run p vals), R64 q.1 := fun q hq => by
      obtain ⟨y, hy, rfl⟩ := List.mem_map.1 hq
      exact ih y (by have := Ex.pre_kid hy; omega) (Ex.nums_kid hx hy)
    have hg : ∀ k : Nat, R64 ((x.kids.map (Ex.run p vals)).getD k (0, false)).1 := fun k => by
      rw [List.getD_eq_getElem?_getD]
      cases e : (x.kids.map (Ex.run p vals))[k]? with
      | none => show R64 0; unfold R64; decide
      | some q => exact hm q (List.mem_of_getElem? e)
    have hxn := hx x (by rw [x.pre_eq]; exact List.mem_cons_self)
    rw [x.run_eq]
    unfold runK
    repeat' split
    all_goals first | exact hxn | exact getD_r hv _ | exact runOne_r _ _ _ | exact runTwo_r (hg 1) | (unfold R64; decide)
/-- The variables that an expression names are there. -/
def Ex.vars (p : Pg) (x : Ex) : Prop := ∀ y ∈ x.pre, y.op = 4 → (slotS p y.mon y.name).2 = true
theorem tys_vars {p : Pg} : ∀ {l : List Ex} {s : Int × Int}, (∀ x ∈ l, ∀ s : Int × Int, (x.ty p s).2.1 = 0 → s.1 = 0 ∧ x.vars p) → (Ex.tys p l s).2.1 = 0 → s.1 = 0 ∧ ∀ x ∈ l, x.vars p
  | [], s, _, h => ⟨by simpa [Ex.tys] using h, by simp⟩
  | x :: r, s, hx, h => by
    rw [Ex.tys] at h
    obtain ⟨h1, h2⟩ := tys_vars (fun y hy => hx y (List.mem_cons_of_mem _ hy)) h
    obtain ⟨h3, h4⟩ := hx x List.mem_cons_self s h1
    exact ⟨h3, fun y hy => by
      rcases List.mem_cons.1 hy with e | hy
      · rw [e]; exact h4
      · exact h2 y hy⟩
theorem ty_vars {p : Pg} (N : Nat) : ∀ (x : Ex) (s : Int × Int), x.pre.length ≤ N → (∀ y ∈ x.pre, isPartS y = true) → (x.ty p s).2.1 = 0 → s.1 = 0 ∧ x.vars p := by
  induction N with
  | zero => intro x s h; have := x.pre_pos; omega
  | succ N ih =>
    intro x s hN hpart h
    have hs : s.1 = 0 := by
      by_cases e : s.1 = 0
      · exact e
      · rw [ty_err _ x s (Nat.le_refl _) e] at h; exact absurd h e
    refine ⟨hs, ?_⟩
    intro y hy hy4
    rw [x.pre_eq] at hy
    by_cases h4 : x.op = 4
    · rw [Ex.ty_var h4] at h
      have hv : (slotS p x.mon x.name).2 = true := by
        obtain ⟨v1, v2⟩ := @varS_two _ p x.mon x.name
        by_cases hh : (varS p x.mon x.name).2 = true
        · rwa [v1] at hh
        · rw [if_neg hh] at h
          unfold failS at h; rw [if_pos hs] at h; exact absurd h (by show ¬ (61 : Int) = 0; decide)
      have hxp := hpart x (by rw [x.pre_eq]; exact List.mem_cons_self)
      have hk : x.kids = [] := by
        unfold isPartS at hxp; simp only [Bool.and_eq_true, beq_iff_eq] at hxp
        have := hxp.1.1
        rw [h4] at this
        exact List.eq_nil_of_length_eq_zero (by simpa [partsS, partsL] using this)
      rw [hk] at hy
      rcases List.mem_cons.1 hy with e | e
      · rw [e]; exact hv
      · simp [Ex.pres] at e
    · rw [Ex.ty_not h4] at h
      have hk : (Ex.tys p x.kids s).2.1 = 0 := by
        by_cases e : (Ex.tys p x.kids s).2.1 = 0
        · exact e
        · rw [looksS_err (by exact e)] at h; exact h
      have := (tys_vars (fun z hz s' => ih z s' (by have := Ex.pre_kid hz; omega) (fun w hw => hpart w (Ex.pre_sub hz hw))) hk).2
      rcases List.mem_cons.1 hy with e | e
      · rw [e] at hy4; exact absurd hy4 h4
      · rw [Ex.pres_map] at e
        obtain ⟨z, hz, hyz⟩ := List.mem_flatMap.1 e
        exact this z hz y hyz hy4
end Go.Proofs.Ytlafnhpmhflnaaa.Q

namespace Go.Proofs.Ytlafnhpmhflnaaa.Q
open Go.RowKit
variable [Amb]
theorem runK_one {op n v : Int} {l : List (Int × Bool)} (h : op = 5 ∨ op = 6 ∨ op = 7) : runK op n v l = runOne op n (l.getD 0 (0, false)) := by
  unfold runK; rw [if_neg (by omega), if_neg (by omega), if_neg (by omega), if_neg (by omega), if_pos h]
theorem runK_two {op n v : Int} {l : List (Int × Bool)} (h : 8 ≤ op) : runK op n v l = runTwo op (l.getD 0 (0, false)) (l.getD 1 (0, false)) := by
  unfold runK; rw [if_neg (by omega), if_neg (by omega), if_neg (by omega), if_neg (by omega), if_neg (by omega)]
theorem getD_map {α β : Type} (f : α → β) (d : β) {l : List α} {k : Nat} (h : k < l.length) : (l.map f).getD k d = f l[k] := by simp [List.getD_eq_getElem?_getD, h]
abbrev rkC (p : Pg) (vals : List Int) (x : Ex) : Prop := PFun Try.prog 53 [.ptr 0 0, x.v] [rkB p vals false] (iv (x.run p vals).1) [rkB p vals (x.run p vals).2]
theorem one_c (p : Pg) (vals : List Int) (x : Ex) (hv : I64 vals) (hx : x.nums) (ho : x.op = 5 ∨ x.op = 6 ∨ x.op = 7) (hk : 0 < x.kids.length) (c : rkC p vals x.kids[0]) :
    PFun Try.prog 65 [.ptr 0 0, x.v] [rkB p vals false] (iv (x.run p vals).1) [rkB p vals (x.run p vals).2] := by
  have hxn := hx x (by rw [x.pre_eq]; exact List.mem_cons_self)
  have hr := run_r hv _ x.kids[0] (p := p) (Nat.le_refl _) (Ex.nums_kid hx (List.getElem_mem hk))
  have e : x.run p vals = runOne x.op x.n (x.kids[0].run p vals) := by rw [x.run_eq, runK_one ho, getD_map _ _ hk]
  rw [e]
  unfold rkC at c
  generalize x.kids[0].run p vals = a at c hr ⊢
  refine fn_sem pok 42 1 Try.func65 (by kernel_rfl) rfl rfl rfl rfl ?_
  refine SWp.go pok (by kernel_rfl) ?_
  refine PIdx.ex' rfl hk ?_
  refine PFun.call c ?_
  unfold runOne
  obtain ⟨an, af⟩ := a
  refine brP_split (fun h => ?_) (fun h => ?_)
  · have h : af = true := by simpa using h
    subst h
    exact ⟨rfl, rfl⟩
  have h : af = false := by simpa using h
  subst h
  refine brP_split (fun h => ?_) (fun h => ?_)
  · have h5 : x.op = 5 := by simpa using h
    rw [if_neg (by simp), if_pos h5]
    refine brP_split (fun h => ?_) (fun h => ?_)
    · refine PFun.call (flag_c _) ?_
      exact ⟨by simp_all [flagS], rfl⟩
    · refine PFun.call (flag_c _) ?_
      exact ⟨by simp_all [flagS], rfl⟩
  have h5 : ¬ x.op = 5 := by simpa using h
  refine brP_split (fun h => ?_) (fun h => ?_)
  · have h6 : x.op = 6 := by simpa using h
    rw [if_neg (by simp), if_neg h5, if_pos h6]
    refine PFun.call (numNeg_c an hr) ?_
    refine PFun.call (told_c p vals (negS an)) ?_
    exact ⟨rfl, rfl⟩
  have h6 : ¬ x.op = 6 := by simpa using h
  rw [if_neg (by simp), if_neg h5, if_neg h6]
  refine PFun.call (numMul_c x.n an hxn hr) ?_
  refine PFun.call (told_c p vals (mulS x.n an)) ?_
  exact ⟨rfl, rfl⟩
theorem second_c (p : Pg) (vals : List Int) (x : Ex) (hk : 1 < x.kids.length) (c : rkC p vals x.kids[1]) :
    PFun Try.prog 83 [.ptr 0 0, .ptr 2 0] [.box [.ptr 1 0], rkB p vals false, .box x.cells] (iv (x.kids[1].run p vals).1) [.box [.ptr 1 0], rkB p vals (x.kids[1].run p vals).2, .box x.cells] := by
  refine fn_sem pok 9 3 Try.func83 (by kernel_rfl) rfl rfl rfl rfl ?_
  refine SWp.go pok (by kernel_rfl) ?_
  refine PIdx.ex' rfl hk ?_
  refine ⟨_, _, c, ?_⟩
  exact ⟨rfl, rfl⟩
theorem two_c (p : Pg) (vals : List Int) (x : Ex) (hv : I64 vals) (hx : x.nums) (ho : 8 ≤ x.op) (hk : 1 < x.kids.length) (c : rkC p vals x.kids[0]) (d : rkC p vals x.kids[1]) :
    PFun Try.prog 66 [.ptr 0 0, x.v] [rkB p vals false] (iv (x.run p vals).1) [rkB p vals (x.run p vals).2] := by
  have hk0 : 0 < x.kids.length := by omega
  have hr0 := run_r hv _ x.kids[0] (p := p) (Nat.le_refl _) (Ex.nums_kid hx (List.getElem_mem hk0))
  have hr1 := run_r hv _ x.kids[1] (p := p) (Nat.le_refl _) (Ex.nums_kid hx (List.getElem_mem hk))
  have e : x.run p vals = runTwo x.op (x.kids[0].run p vals) (x.kids[1].run p vals) := by rw [x.run_eq, runK_two ho, getD_map _ _ hk0, getD_map _ _ hk]
  have d := second_c p vals x hk d
  rw [e]
  unfold rkC at c
  generalize x.kids[0].run p vals = a at c hr0 ⊢
  generalize x.kids[1].run p vals = b at d hr1 ⊢
  obtain ⟨an, af⟩ := a
  obtain ⟨bn, bf⟩ := b
  refine fn_sem pok 62 1 Try.func66 (by kernel_rfl) rfl rfl rfl rfl ?_
  refine SWp.go pok (by kernel_rfl) ?_
  refine PIdx.ex' rfl hk0 ?_
  refine ⟨_, _, c, ?_⟩
  unfold runTwo
  refine brP_split (fun h => ?_) (fun h => ?_)
  · have h : af = true := by simpa using h
    subst h
    exact ⟨rfl, rfl⟩
  have h : af = false := by simpa using h
  subst h
  rw [if_neg (by simp)]
  dsimp only
  by_cases o16 : x.op = 16
  · have h16 : (x.op == 16) = true := by simpa using o16
    have h17 : (x.op == 17) = false := by simp; omega
    refine brP_true h16 ?_
    refine brP_split (fun h => ?_) (fun h => ?_)
    · have h : an = 0 := by simpa using h
      rw [if_pos ⟨o16, h⟩]
      exact ⟨rfl, rfl⟩
    have h : ¬ an = 0 := by simpa using h
    rw [if_neg (fun e => h e.2), if_neg (by omega), if_pos (.inl o16)]
    repeat refine brP_false h17 ?_
    repeat refine brP_true h16 ?_
    refine PFun.call d ?_
    exact ⟨rfl, rfl⟩
  have h16 : (x.op == 16) = false := by simpa using o16
  repeat refine brP_false h16 ?_
  rw [if_neg (fun e => o16 e.1)]
  by_cases o17 : x.op = 17
  · have h17 : (x.op == 17) = true := by simpa using o17
    refine brP_true h17 ?_
    refine brP_split (fun h => ?_) (fun h => ?_)
    · have h : ¬ an = 0 := by simpa using h
      rw [if_pos ⟨o17, h⟩]
      exact ⟨rfl, rfl⟩
    have h : an = 0 := by simpa using h
    rw [if_neg (fun e => e.2 h), if_pos (.inr o17)]
    repeat refine brP_false h16 ?_
    repeat refine brP_true h17 ?_
    refine PFun.call d ?_
    exact ⟨rfl, rfl⟩
  have h17 : (x.op == 17) = false := by simpa using o17
  rw [if_neg (fun e => o17 e.1), if_neg (by omega)]
  repeat refine brP_false h17 ?_
  repeat refine brP_false h16 ?_
  repeat refine brP_false h17 ?_
  refine PFun.call d ?_
  refine brP_split (fun h => ?_) (fun h => ?_)
  · have h : bf = true := by simpa using h
    subst h
    exact ⟨rfl, rfl⟩
  have h : bf = false := by simpa using h
  subst h
  rw [if_neg (by simp)]
  refine ⟨_, _, join_c x.op an bn hr0 hr1, ?_⟩
  refine ⟨_, _, told_c p vals (joinS x.op an bn), ?_⟩
  exact ⟨rfl, rfl⟩
theorem reckon_c (p : Pg) (vals : List Int) (hp : p.fits) (hv : I64 vals) (hl : vals.length = nVars p.mons) (N : Nat) : ∀ x : Ex, x.pre.length ≤ N → x.pre.length < 1073741824 → x.nums → (∀ y ∈ x.pre, isPartS y = true) → x.vars p → rkC p vals x := by
  induction N with
  | zero => intro x h; have := x.pre_pos; omega
  | succ N ih =>
    intro x hN hB hx hpart hvar
    have hkl := x.kids_len
    have hxp := hpart x (by rw [x.pre_eq]; exact List.mem_cons_self)
    have hkid : ∀ (k : Nat) (h : k < x.kids.length), rkC p vals x.kids[k] := fun k h => by
      have hm := List.getElem_mem h
      have hlk := Ex.pre_kid hm
      exact ih x.kids[k] (by omega) (by omega) (Ex.nums_kid hx hm) (fun y hy => hpart y (Ex.pre_sub hm hy)) (fun y hy => hvar y (Ex.pre_sub hm hy))
    have hop := partS_op hxp
    have hlen : ((x.kids.length : Int) == partsS x.op) = true := by
      unfold isPartS at hxp; simp only [Bool.and_eq_true] at hxp; exact hxp.1.1
    rw [beq_iff_eq] at hlen
    refine fn_sem pok 48 1 Try.func53 (by kernel_rfl) rfl rfl rfl rfl ?_
    refine SWp.go pok (by kernel_rfl) ?_
    refine brP_split (fun h => ?_) (fun h => ?_)
    · have h : x.op = 1 := by simpa using h
      exact ⟨by rw [x.run_eq, h]; rfl, by rw [x.run_eq, h]; rfl⟩
    have h1 : ¬ x.op = 1 := by simpa using h
    refine brP_split (fun h => ?_) (fun h => ?_)
    · have h : x.op = 2 := by simpa using h
      exact ⟨by rw [x.run_eq, h]; rfl, by rw [x.run_eq, h]; rfl⟩
    have h2 : ¬ x.op = 2 := by simpa using h
    refine brP_split (fun h => ?_) (fun h => ?_)
    · have h : x.op = 3 := by simpa using h
      exact ⟨by rw [x.run_eq, h]; rfl, by rw [x.run_eq, h]; rfl⟩
    have h3 : ¬ x.op = 3 := by simpa using h
    refine brP_split (fun h => ?_) (fun h => ?_)
    · have h : x.op = 4 := by simpa using h
      have hs := slotS_lt (hvar x (by rw [x.pre_eq]; exact List.mem_cons_self) h)
      obtain ⟨i, hi⟩ := Int.eq_ofNat_of_zero_le hs.1
      have hil : i < vals.length := by omega
      refine ⟨_, _, namesSlot_c p x.mon x.name hp.1 hp.2, ?_⟩
      refine PIdx.map' hi (get_at hil) ?_
      have e : x.run p vals = (vals[i], false) := by
        rw [x.run_eq, h, hi]; unfold runK
        simp [hil]
      exact ⟨by rw [e], by rw [e]; rfl⟩
    have h4 : ¬ x.op = 4 := by simpa using h
    by_cases h5 : x.op = 5 ∨ x.op = 6 ∨ x.op = 7
    · have hk : 0 < x.kids.length := by
        rcases h5 with e | e | e <;> (rw [e] at hlen; simp [partsS, partsL] at hlen; omega)
      have c1 := one_c p vals x hv hx h5 hk (hkid 0 hk)
      refine brP_split (fun h => ?_) (fun h => ?_)
      · refine PFun.call c1 ?_
        exact ⟨rfl, rfl⟩
      refine brP_split (fun h => ?_) (fun h => ?_)
      · refine PFun.call c1 ?_
        exact ⟨rfl, rfl⟩
      refine brP_split (fun h => ?_) (fun h => ?_)
      · refine PFun.call c1 ?_
        exact ⟨rfl, rfl⟩
      simp_all
    · have h8 : 8 ≤ x.op := by
        rcases Int.lt_or_le x.op 8 with e | e
        · have : x.op = 0 := by omega
          rw [this] at hlen; simp [partsS, partsL] at hlen
        · exact e
      have hk : 1 < x.kids.length := by
        have : x.op = 8 ∨ x.op = 9 ∨ x.op = 10 ∨ x.op = 11 ∨ x.op = 12 ∨ x.op = 13 ∨ x.op = 14 ∨ x.op = 15 ∨ x.op = 16 ∨ x.op = 17 := by omega
        rcases this with e | e | e | e | e | e | e | e | e | e <;> (rw [e] at hlen; simp [partsS, partsL] at hlen; omega)
      have c1 := two_c p vals x hv hx h8 hk (hkid 0 (by omega)) (hkid 1 hk)
      refine brP_false (by simp; omega) ?_
      refine brP_false (by simp; omega) ?_
      refine brP_false (by simp; omega) ?_
      refine PFun.call c1 ?_
      exact ⟨rfl, rfl⟩
/-- What Eval answers. -/
def evalS (p : Pg) (x : Ex) (vals : List Int) : Int × Int :=
  if ¬ (typeS p x).2.1 = 0 then (0, (typeS p x).2.1) else if ¬ vals.length = nVars p.mons then (0, 2) else if (x.run p vals).2 = true then (0, 110) else ((x.run p vals).1, 0)
def ii (q : Int × Int) : V := .tup [iv q.1, iv q.2]
theorem eval_c (p : Pg) (x : Ex) (vals : List Int) (hp : p.fits) (hx : x.fits) (hn : x.nums) (hv : I64 vals) : PFun Try.prog 32 [p.v, x.v, ils vals] [] (ii (evalS p x vals)) [] := by
  refine fn_sem pok 41 0 Try.func32 (by kernel_rfl) rfl rfl rfl rfl ?_
  refine SWp.go pok (by kernel_rfl) ?_
  refine PFun.call (type_c p x hp hx) ?_
  unfold evalS
  refine brP_split (fun h => ?_) (fun h => ?_)
  · have h : ¬ (typeS p x).2.1 = 0 := by simpa using h
    exact fin1 (by rw [if_pos h]; rfl)
  have h0 : (typeS p x).2.1 = 0 := by simpa using h
  rw [if_neg (fun e => e h0)]
  refine PFun.call (namesSlots_c p hp.1 hp.2) ?_
  refine brP_split (fun h => ?_) (fun h => ?_)
  · have h : ¬ vals.length = nVars p.mons := by simp [slotsS_len] at h; omega
    exact fin1 (by rw [if_pos h]; rfl)
  have hl : vals.length = nVars p.mons := by simp [slotsS_len] at h; omega
  rw [if_neg (fun e => e hl)]
  have hparts := typeS_parts h0
  have hvar : x.vars p := by
    have hc : checkS x = 0 := by
      unfold typeS at h0
      by_cases hc : checkS x = 0
      · exact hc
      · rw [if_neg hc] at h0; exact absurd h0 hc
    have ht : (x.ty p (0, 0)).2.1 = 0 := by
      unfold typeS at h0
      rw [if_pos hc] at h0
      by_cases ht : (x.ty p (0, 0)).2.1 = 0
      · exact ht
      · rw [if_neg ht] at h0; exact h0
    exact (ty_vars _ x (0, 0) (Nat.le_refl _) hparts ht).2
  refine PFun.call (reckon_c p vals hp hv hl _ x (Nat.le_refl _) hx.1 hn hparts hvar) ?_
  refine brP_split (fun h => ?_) (fun h => ?_)
  · have h : (x.run p vals).2 = true := by simpa using h
    exact fin1 (by rw [if_pos h]; rfl)
  have h : ¬ (x.run p vals).2 = true := by simpa using h
  exact fin1 (by rw [if_neg h]; rfl)
end Go.Proofs.Ytlafnhpmhflnaaa.Q

namespace Go.Proofs.Ytlafnhpmhflnaaa.Q
open Go.RowKit
variable [Amb]
theorem toldS_ok {n : Int} (h : (toldS (told n)).2 = false) : (toldS (told n)).1 = n := by
  have h2 : (told n).2 = true := by unfold toldS at h; simpa using h
  have := (told_true h2).2
  unfold toldS; rw [if_pos h2]; exact this
theorem runOne_ok {op n : Int} {a : Int × Bool} (h5 : op ≠ 5) (h : (runOne op n a).2 = false) : a.2 = false ∧ (runOne op n a).1 = if op = 6 then - a.1 else n * a.1 := by
  have ha : ¬ a.2 = true := fun e => by unfold runOne at h; rw [if_pos e] at h; cases h
  refine ⟨by simpa using ha, ?_⟩
  unfold runOne at h ⊢
  rw [if_neg ha, if_neg h5] at h ⊢
  by_cases h6 : op = 6
  · rw [if_pos h6] at h ⊢; rw [if_pos h6]; exact toldS_ok h
  · rw [if_neg h6] at h ⊢; rw [if_neg h6]; exact toldS_ok h
theorem runTwo_ok {op : Int} {a b : Int × Bool} (h8 : op = 8 ∨ op = 9) (h : (runTwo op a b).2 = false) : a.2 = false ∧ b.2 = false ∧ (runTwo op a b).1 = if op = 8 then a.1 + b.1 else a.1 - b.1 := by
  have ha : ¬ a.2 = true := fun e => by unfold runTwo at h; rw [if_pos e] at h; cases h
  have hb : ¬ b.2 = true := fun e => by
    unfold runTwo at h; rw [if_neg ha, if_neg (by omega), if_neg (by omega), if_neg (by omega), if_pos e] at h; cases h
  refine ⟨by simpa using ha, by simpa using hb, ?_⟩
  unfold runTwo at h ⊢
  rw [if_neg ha, if_neg (by omega), if_neg (by omega), if_neg (by omega), if_neg hb] at h ⊢
  unfold joinS at h ⊢
  rcases h8 with rfl | rfl
  · exact toldS_ok h
  · exact toldS_ok h
/-- What a sum that is an expression's is worth is what the expression comes to. -/
theorem worth {p : Pg} {vals : List Int} (N : Nat) : ∀ x : Ex, x.pre.length ≤ N → (∀ y ∈ x.pre, isPartS y = true) → (x.sum p).2 = true → (x.run p vals).2 = false → (x.run p vals).1 = (x.sum p).1.k + wT vals (x.sum p).1.l := by
  induction N with
  | zero => intro x h; have := x.pre_pos; omega
  | succ N ih =>
    intro x hN hpart hs hf
    have hxp := hpart x (by rw [x.pre_eq]; exact List.mem_cons_self)
    have ihk : ∀ (k : Nat) (h : k < x.kids.length), (x.kids[k].sum p).2 = true → (x.kids[k].run p vals).2 = false → (x.kids[k].run p vals).1 = (x.kids[k].sum p).1.k + wT vals (x.kids[k].sum p).1.l := fun k h => by
      have hm := List.getElem_mem h
      exact ih x.kids[k] (by have := Ex.pre_kid hm; omega) (fun y hy => hpart y (Ex.pre_sub hm hy))
    have hlen : ((x.kids.length : Int) == partsS x.op) = true := by
      unfold isPartS at hxp; simp only [Bool.and_eq_true] at hxp; exact hxp.1.1
    rw [beq_iff_eq] at hlen
    rw [x.sum_eq] at hs ⊢
    rw [x.run_eq] at hf ⊢
    by_cases h1 : x.op = 1
    · rw [sumK_num h1] at hs ⊢
      rw [h1] at hf ⊢
      show x.n = x.n + wT vals []
      simp [wT]
    by_cases h4 : x.op = 4
    · rw [sumK_var h1 h4] at hs ⊢
      rw [h4] at hf ⊢
      show vals.getD (slotS p x.mon x.name).1.toNat 0 = 0 + wT vals [⟨(slotS p x.mon x.name).1, 1⟩]
      simp [wT]
    by_cases h0 : 0 < x.kids.length
    · have e0 : (x.kids.map (Ex.sum p))[0]? = some (x.kids[0].sum p) := by simp [h0]
      unfold sumK at hs ⊢
      rw [if_neg h1, if_neg h4, e0] at hs ⊢
      dsimp only at hs ⊢
      have ha : (x.kids[0].sum p).2 = true := by
        unfold sumA at hs
        by_cases ha : (x.kids[0].sum p).2 = true
        · exact ha
        · rw [if_neg ha] at hs; cases hs
      unfold sumA at hs ⊢
      rw [if_pos ha] at hs ⊢
      by_cases h6 : x.op = 6
      · rw [if_pos h6] at hs ⊢
        rw [runK_one (.inr (.inl h6)), getD_map _ _ h0] at hf ⊢
        obtain ⟨f1, f2⟩ := runOne_ok (by omega) hf
        rw [f2, if_pos h6, scaleS_val hs, ihk 0 h0 ha f1]
        omega
      rw [if_neg h6] at hs ⊢
      by_cases h7 : x.op = 7
      · rw [if_pos h7] at hs ⊢
        rw [runK_one (.inr (.inr h7)), getD_map _ _ h0] at hf ⊢
        obtain ⟨f1, f2⟩ := runOne_ok (by omega) hf
        rw [f2, if_neg h6, scaleS_val hs, ihk 0 h0 ha f1]
      rw [if_neg h7] at hs ⊢
      by_cases h8 : x.op = 8 ∨ x.op = 9
      · have hk1 : 1 < x.kids.length := by
          rcases h8 with e | e <;> (rw [e] at hlen; simp [partsS, partsL] at hlen; omega)
        have e1 : (x.kids.map (Ex.sum p))[1]? = some (x.kids[1].sum p) := by simp [hk1]
        rw [e1] at hs ⊢
        dsimp only at hs ⊢
        rw [runK_two (by omega), getD_map _ _ h0, getD_map _ _ hk1] at hf ⊢
        obtain ⟨f1, f2, f3⟩ := runTwo_ok h8 hf
        unfold sumB at hs ⊢
        by_cases h8 : x.op = 8
        · rw [if_pos h8] at hs ⊢
          by_cases hb : (x.kids[1].sum p).2 = true
          · rw [if_pos hb] at hs ⊢
            rw [f3, if_pos h8, addL_val hs, ihk 0 h0 ha f1, ihk 1 hk1 hb f2]
          · rw [if_neg hb] at hs; cases hs
        · have h9 : x.op = 9 := by omega
          rw [if_neg h8, if_pos h9] at hs ⊢
          by_cases hb : (x.kids[1].sum p).2 = true
          · rw [if_pos hb] at hs ⊢
            by_cases hc : (scaleS (x.kids[1].sum p).1 (-1)).2 = true
            · rw [if_pos hc] at hs ⊢
              rw [f3, if_neg h8, addL_val hs, scaleS_val hc, ihk 0 h0 ha f1, ihk 1 hk1 hb f2]
              omega
            · rw [if_neg hc] at hs; cases hs
          · rw [if_neg hb] at hs; cases hs
      · cases e1 : (x.kids.map (Ex.sum p))[1]? with
        | none => rw [e1] at hs; cases hs
        | some b =>
          rw [e1] at hs
          dsimp only at hs
          unfold sumB at hs
          rw [if_neg (fun e => h8 (.inl e)), if_neg (fun e => h8 (.inr e))] at hs
          cases hs
    · have e0 : (x.kids.map (Ex.sum p))[0]? = none := List.getElem?_eq_none (by rw [List.length_map]; omega)
      unfold sumK at hs
      rw [if_neg h1, if_neg h4, e0] at hs
      cases hs
theorem linWorth_law {p : Pg} {x : Ex} {vals : List Int} (h1 : (linOfS p x).2 = true) (h2 : (evalS p x vals).2 = 0) (h3 : (valueS (linOfS p x).1 vals).2 = true) : (evalS p x vals).1 = (valueS (linOfS p x).1 vals).1 := by
  have ht : (typeS p x).2.1 = 0 ∧ (typeS p x).1 = 2 := by
    unfold linOfS at h1
    split at h1
    · assumption
    · cases h1
  unfold linOfS at h1 h3 ⊢
  rw [if_pos ht] at h1 h3 ⊢
  unfold evalS at h2 ⊢
  rw [if_neg (fun e => e ht.1)] at h2 ⊢
  by_cases hl : ¬ vals.length = nVars p.mons
  · rw [if_pos hl] at h2; exact absurd h2 (by show ¬ (2 : Int) = 0; decide)
  rw [if_neg hl] at h2 ⊢
  by_cases hf : (x.run p vals).2 = true
  · rw [if_pos hf] at h2; exact absurd h2 (by show ¬ (110 : Int) = 0; decide)
  rw [if_neg hf]
  rw [(valueS_sum h3).2]
  exact worth _ x (Nat.le_refl _) (typeS_parts ht.1) h1 (by simpa using hf)
theorem linOfS_ok (p : Pg) (x : Ex) (hp : p.fits) (hn : x.nums) : (linOfS p x).1.ok := by
  unfold linOfS
  split
  · exact sum_ok p hp _ x (Nat.le_refl _) hn
  · exact noLn_ok
theorem linWorth_t (p : Pg) (x : Ex) (vals : List Int) (_ : True) (hn : x.nums) (hv : I64 vals) : PFun Try.prog 8 [p.v, x.v, ils vals] [] (.d (.bool true)) [] := by
  refine fn_sem pok 64 0 Try.func8 (by kernel_rfl) rfl rfl rfl rfl ?_
  refine SWp.go pok (by kernel_rfl) ?_
  refine PCalls.mono (small02_c p 200 (by decide) (by decide)) ?_
  rintro r h' ⟨b, rfl, rfl, hb⟩
  refine brP_split (fun h => ?_) (fun h => ?_)
  · exact PFun.call live_c (fin1 rfl)
  have hp : p.fits := (hb (by simpa using h)).fits
  refine PCalls.mono (restExpr_c _ x 200 (Nat.le_refl _) (by decide) (by decide)) ?_
  rintro r h' ⟨z, rfl, rfl, z0, z1, zX⟩
  refine brP_split (fun h => ?_) (fun h => ?_)
  · exact PFun.call live_c (fin1 rfl)
  obtain ⟨l1, l2⟩ := zX (by simpa using h)
  have hx : x.fits := ⟨by omega, fun y hy => by have := l2 y hy; omega⟩
  refine brP_split (fun h => ?_) (fun h => ?_)
  · exact PFun.call live_c (fin1 rfl)
  have hso := linOfS_ok p x hp hn
  refine PFun.call (linOf_c p x hp hx hn) ?_
  refine PFun.call (eval_c p x vals hp hx hn hv) ?_
  refine PFun.call (linValue_c (linOfS p x).1 vals hso hv) ?_
  refine brP_split (fun h1 => ?_) (fun h1 => ?_)
  · repeat refine brP_true h1 ?_
    exact PFun.call live_c (fin1 rfl)
  repeat refine brP_false h1 ?_
  refine brP_split (fun h2 => ?_) (fun h2 => ?_)
  · repeat refine brP_true h2 ?_
    exact PFun.call live_c (fin1 rfl)
  repeat refine brP_false h2 ?_
  refine brP_split (fun h3 => ?_) (fun h3 => ?_)
  · repeat refine brP_true h3 ?_
    exact PFun.call live_c (fin1 rfl)
  repeat refine brP_false h3 ?_
  have law := linWorth_law (show (linOfS p x).2 = true by simpa using h1) (show (evalS p x vals).2 = 0 by simpa using h2) (show (valueS (linOfS p x).1 vals).2 = true by simpa using h3)
  refine brP_true (by simpa using law) ?_
  exact PFun.call live_c (fin1 rfl)
end Go.Proofs.Ytlafnhpmhflnaaa.Q
