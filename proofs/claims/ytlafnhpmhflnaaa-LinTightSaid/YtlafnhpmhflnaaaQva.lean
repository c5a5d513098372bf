/- Sums of variables: what is said of them, no program in sight. No condition. -/
import Derived.Test.YtlafnhpmhflnaaaQy
set_option linter.unusedVariables false
set_option linter.unusedSectionVars false
set_option linter.unnecessarySimpa false
set_option linter.unusedSimpArgs false
namespace Go.Proofs.Ytlafnhpmhflnaaa.Q
open Go.RowKit
variable [Amb]
structure Tm where
  var : Int
  c : Int
structure Ln where
  k : Int
  l : List Tm
structure Cn where
  rel : Int
  s : Ln
def Tm.e (t : Tm) : List D := [.int .i64 t.var, .int .i64 t.c]
def Ln.v (x : Ln) : V := .agg [.d (.int .i64 x.k), .d (.sl (x.l.map Tm.e))]
def Cn.v (x : Cn) : V := .agg [.d (.int .i64 x.rel), .d (.int .i64 x.s.k), .d (.sl (x.s.l.map Tm.e))]
def Tm.ok (t : Tm) : Prop := R64 t.var ∧ R64 t.c
def Ln.ok (x : Ln) : Prop := R64 x.k ∧ ∀ t ∈ x.l, t.ok
def Cn.ok (x : Cn) : Prop := R64 x.rel ∧ x.s.ok
/-- A sum, and whether it is there. -/
def lb (p : Ln × Bool) : V := .tup [p.1.v, .d (.bool p.2)]
def cb (p : Cn × Bool) : V := .tup [p.1.v, .d (.bool p.2)]
def okFrom (last : Int) : List Tm → Bool
  | [] => true
  | t :: ts => if t.var ≤ last ∨ t.c = 0 then false else okFrom t.var ts
def isB (xs : List Tm) : Bool := decide (xs.length ≤ 40) && okFrom (-1) xs
theorem okFrom_at (last : Int) (xs : List Tm) (k : Nat) (h : k < xs.length) : okFrom last (xs.drop k) = if xs[k].var ≤ last ∨ xs[k].c = 0 then false else okFrom xs[k].var (xs.drop (k + 1)) := by
  rw [List.drop_eq_getElem_cons h]; rfl
def scaleT (k : Int) : List Tm → Option (List Tm)
  | [] => some []
  | t :: ts => if (mulS t.c k).2 then (scaleT k ts).map (fun r => if (mulS t.c k).1 = 0 then r else ⟨t.var, (mulS t.c k).1⟩ :: r) else none
def noLn : Ln × Bool := (⟨0, []⟩, false)
def scaleS (a : Ln) (k : Int) : Ln × Bool :=
  if (mulS a.k k).2 = true ∧ isB a.l = true then match scaleT k a.l with | some l => (⟨(mulS a.k k).1, l⟩, true) | none => noLn else noLn
theorem scaleT_at (k : Int) (xs : List Tm) (j : Nat) (h : j < xs.length) : scaleT k (xs.drop j) = if (mulS xs[j].c k).2 then (scaleT k (xs.drop (j + 1))).map (fun r => if (mulS xs[j].c k).1 = 0 then r else ⟨xs[j].var, (mulS xs[j].c k).1⟩ :: r) else none := by
  rw [List.drop_eq_getElem_cons h]; rfl
theorem isB_len {l : List Tm} (h : isB l = true) : l.length ≤ 40 := by unfold isB at h; simp at h; exact h.1
theorem scale_no1 {x : Ln} {k : Int} (h : ¬ (mulS x.k k).2 = true) : scaleS x k = noLn := if_neg fun h' => h h'.1
theorem scale_no2 {x : Ln} {k : Int} (h : ¬ isB x.l = true) : scaleS x k = noLn := if_neg fun h' => h h'.2
theorem scale_no3 {x : Ln} {k : Int} (h : scaleT k x.l = none) : scaleS x k = noLn := by unfold scaleS; split <;> simp [h]
theorem scale_yes {x : Ln} {k : Int} {l : List Tm} (h1 : (mulS x.k k).2 = true) (h2 : isB x.l = true) (h : scaleT k x.l = some l) : scaleS x k = (⟨(mulS x.k k).1, l⟩, true) := by unfold scaleS; rw [if_pos ⟨h1, h2⟩, h]
def con (t : Tm) (r : List Tm) : List Tm := if t.c = 0 then r else t :: r
def addT : List Tm → List Tm → Option (List Tm)
  | [], [] => some []
  | t :: x, [] => (addT x []).map (con t)
  | [], u :: y => (addT [] y).map (con u)
  | t :: x, u :: y => if t.var < u.var then (addT x (u :: y)).map (con t) else if u.var < t.var then (addT (t :: x) y).map (con u)
      else if (addS t.c u.c).2 then (addT x y).map (con ⟨t.var, (addS t.c u.c).1⟩) else none
termination_by x y => x.length + y.length
theorem addT_ny (u : Tm) (y : List Tm) : addT [] (u :: y) = (addT [] y).map (con u) := by rw [addT]
theorem addT_xn (t : Tm) (x : List Tm) : addT (t :: x) [] = (addT x []).map (con t) := by rw [addT]
theorem addT_lt {t u : Tm} (x y : List Tm) (h : t.var < u.var) : addT (t :: x) (u :: y) = (addT x (u :: y)).map (con t) := by rw [addT, if_pos h]
theorem addT_gt {t u : Tm} (x y : List Tm) (h : u.var < t.var) : addT (t :: x) (u :: y) = (addT (t :: x) y).map (con u) := by rw [addT, if_neg (by omega), if_pos h]
theorem addT_eq {t u : Tm} (x y : List Tm) (h1 : ¬ t.var < u.var) (h2 : ¬ u.var < t.var) (h : (addS t.c u.c).2 = true) : addT (t :: x) (u :: y) = (addT x y).map (con ⟨t.var, (addS t.c u.c).1⟩) := by rw [addT, if_neg h1, if_neg h2, if_pos h]
theorem addT_no {t u : Tm} (x y : List Tm) (h1 : ¬ t.var < u.var) (h2 : ¬ u.var < t.var) (h : ¬ (addS t.c u.c).2 = true) : addT (t :: x) (u :: y) = none := by rw [addT, if_neg h1, if_neg h2, if_neg h]
def addL (a b : Ln) : Ln × Bool :=
  if isB a.l = true ∧ isB b.l = true ∧ (addS a.k b.k).2 = true then match addT a.l b.l with | some l => if l.length ≤ 40 then (⟨(addS a.k b.k).1, l⟩, true) else noLn | none => noLn else noLn
theorem add_no1 {x y : Ln} (h : ¬ isB x.l = true) : addL x y = noLn := if_neg fun h' => h h'.1
theorem add_no2 {x y : Ln} (h : ¬ isB y.l = true) : addL x y = noLn := if_neg fun h' => h h'.2.1
theorem add_no3 {x y : Ln} (h : ¬ (addS x.k y.k).2 = true) : addL x y = noLn := if_neg fun h' => h h'.2.2
theorem add_none {x y : Ln} (h : addT x.l y.l = none) : addL x y = noLn := by unfold addL; split <;> simp [h]
theorem add_yes {x y : Ln} {l : List Tm} (h1 : isB x.l = true) (h2 : isB y.l = true) (h3 : (addS x.k y.k).2 = true) (h : addT x.l y.l = some l) (hl : l.length ≤ 40) : addL x y = (⟨(addS x.k y.k).1, l⟩, true) := by unfold addL; rw [if_pos ⟨h1, h2, h3⟩, h]; exact if_pos hl
theorem add_no4 {x y : Ln} {l : List Tm} (h1 : isB x.l = true) (h2 : isB y.l = true) (h3 : (addS x.k y.k).2 = true) (h : addT x.l y.l = some l) (hl : ¬ l.length ≤ 40) : addL x y = noLn := by unfold addL; rw [if_pos ⟨h1, h2, h3⟩, h]; exact if_neg hl
def valF (vals : List Int) (n : Int) : List Tm → Int × Bool
  | [] => (n, true)
  | t :: ts => if (vals.length : Int) ≤ t.var then (0, false) else if (mulS t.c (vals.getD t.var.toNat 0)).2 = true then if (addS n (mulS t.c (vals.getD t.var.toNat 0)).1).2 = true then valF vals (addS n (mulS t.c (vals.getD t.var.toNat 0)).1).1 ts else (0, false) else (0, false)
def valueS (a : Ln) (vals : List Int) : Int × Bool := if isB a.l = true then valF vals a.k a.l else (0, false)
def holdsS (c : Cn) (vals : List Int) : Bool := (valueS c.s vals).2 && (if c.rel = 1 then decide ((valueS c.s vals).1 ≤ 0) else if c.rel = 2 then (valueS c.s vals).1 == 0 else if c.rel = 3 then (valueS c.s vals).1 != 0 else false)
theorem okFrom_var {last : Int} {l : List Tm} (h : okFrom last l = true) : ∀ t ∈ l, last < t.var := by
  induction l generalizing last with
  | nil => simp
  | cons u l ih =>
    unfold okFrom at h
    split at h
    · cases h
    · rename_i hn
      intro t ht
      rcases List.mem_cons.1 ht with rfl | ht
      · omega
      · have := ih h t ht; omega
theorem isB_var {l : List Tm} (h : isB l = true) (k : Nat) (hk : k < l.length) : 0 ≤ l[k].var := by
  unfold isB at h
  simp only [Bool.and_eq_true] at h
  have := okFrom_var h.2 l[k] (List.getElem_mem hk)
  omega
theorem valF_at (vals : List Int) (n : Int) (l : List Tm) (k : Nat) (h : k < l.length) : valF vals n (l.drop k) = if (vals.length : Int) ≤ l[k].var then (0, false) else if (mulS l[k].c (vals.getD l[k].var.toNat 0)).2 = true then if (addS n (mulS l[k].c (vals.getD l[k].var.toNat 0)).1).2 = true then valF vals (addS n (mulS l[k].c (vals.getD l[k].var.toNat 0)).1).1 (l.drop (k + 1)) else (0, false) else (0, false) := by
  rw [List.drop_eq_getElem_cons h]; rfl
theorem valF_r (vals : List Int) (l : List Tm) : ∀ n, R64 n → R64 (valF vals n l).1 := by
  induction l with
  | nil => exact fun n h => h
  | cons t l ih =>
    intro n h
    unfold valF
    have z : R64 0 := by unfold R64; omega
    split
    · exact z
    · split
      · split
        · exact ih _ (told_r _)
        · exact z
      · exact z
theorem valueS_r (a : Ln) (vals : List Int) (h : R64 a.k) : R64 (valueS a vals).1 := by
  unfold valueS; split
  · exact valF_r _ _ _ h
  · unfold R64; omega
def tmEq (a b : Tm) : Bool := a.var == b.var && a.c == b.c
def sameT : List Tm → List Tm → Bool
  | [], _ => true
  | _ :: _, [] => true
  | t :: ts, u :: us => tmEq t u && sameT ts us
def sameS (a b : Ln) : Bool := a.k == b.k && (a.l.length == b.l.length && sameT a.l b.l)
theorem sameT_at (a b : List Tm) (k : Nat) (h : k < a.length) (h2 : k < b.length) : sameT (a.drop k) (b.drop k) = (tmEq a[k] b[k] && sameT (a.drop (k + 1)) (b.drop (k + 1))) := by
  rw [List.drop_eq_getElem_cons h, List.drop_eq_getElem_cons h2]; rfl
def noCn : Cn × Bool := (⟨0, ⟨0, []⟩⟩, false)
def divT (g : Int) (l : List Tm) : List Tm := l.map fun t => ⟨t.var, t.c.tdiv g⟩
def tightS (x : Cn) : Cn × Bool :=
  if x.rel < 1 ∨ 3 < x.rel then noCn else if isB x.s.l = true then if x.s.l.length = 0 then (x, true) else
    let g := gcdL (x.s.l.map (·.c))
    if g = 0 then noCn else if x.rel = 1 then if (negS x.s.k).2 = true then (⟨1, ⟨-(divS (negS x.s.k).1 g), divT g x.s.l⟩⟩, true) else noCn
    else if x.s.k.tmod g = 0 then (⟨x.rel, ⟨x.s.k.tdiv g, divT g x.s.l⟩⟩, true) else (⟨x.rel, ⟨1, []⟩⟩, true) else noCn
theorem gcdL_nonneg (l : List Int) : 0 ≤ gcdL l := by unfold gcdL; split <;> omega
theorem gcdL_r (l : List Int) (hr : ∀ n ∈ l, R64 n) : R64 (gcdL l) := by
  by_cases h : l.all notMin = true
  · rw [gcdL_yes h]
    have := gcdF_r l h hr l.length
    rwa [List.take_length] at this
  · unfold gcdL
    have : ¬ l.all (fun n => decide (n ≠ -9223372036854775808)) = true := h
    rw [if_neg this]; unfold R64; omega
theorem tight_no {x : Cn} (h : x.rel < 1 ∨ 3 < x.rel) : tightS x = noCn := if_pos h
theorem tight_is {x : Cn} (h : ¬ isB x.s.l = true) : tightS x = noCn := by unfold tightS; split <;> simp [h]
theorem tight_nil {x : Cn} (h0 : ¬ (x.rel < 1 ∨ 3 < x.rel)) (h : isB x.s.l = true) (h1 : x.s.l.length = 0) : tightS x = (x, true) := by unfold tightS; rw [if_neg h0, if_pos h, if_pos h1]
theorem tight_g {x : Cn} (h1 : ¬ x.s.l.length = 0) (h2 : gcdL (x.s.l.map (·.c)) = 0) : tightS x = noCn := by
  unfold tightS
  by_cases a : x.rel < 1 ∨ 3 < x.rel
  · rw [if_pos a]
  · rw [if_neg a]
    by_cases b : isB x.s.l = true
    · rw [if_pos b, if_neg h1]; simp [h2]
    · rw [if_neg b]
theorem tight_r1 {x : Cn} (h0 : ¬ (x.rel < 1 ∨ 3 < x.rel)) (h : isB x.s.l = true) (h1 : ¬ x.s.l.length = 0) (h2 : ¬ gcdL (x.s.l.map (·.c)) = 0) (h3 : x.rel = 1) (h4 : (negS x.s.k).2 = true) : tightS x = (⟨1, ⟨-(divS (negS x.s.k).1 (gcdL (x.s.l.map (·.c)))), divT (gcdL (x.s.l.map (·.c))) x.s.l⟩⟩, true) := by
  unfold tightS; rw [if_neg h0, if_pos h, if_neg h1]; simp only []; rw [if_neg h2, if_pos h3, if_pos h4]
theorem tight_r1n {x : Cn} (h0 : ¬ (x.rel < 1 ∨ 3 < x.rel)) (h : isB x.s.l = true) (h1 : ¬ x.s.l.length = 0) (h2 : ¬ gcdL (x.s.l.map (·.c)) = 0) (h3 : x.rel = 1) (h4 : ¬ (negS x.s.k).2 = true) : tightS x = noCn := by
  unfold tightS; rw [if_neg h0, if_pos h, if_neg h1]; simp only []; rw [if_neg h2, if_pos h3, if_neg h4]
theorem tight_r2 {x : Cn} (h0 : ¬ (x.rel < 1 ∨ 3 < x.rel)) (h : isB x.s.l = true) (h1 : ¬ x.s.l.length = 0) (h2 : ¬ gcdL (x.s.l.map (·.c)) = 0) (h3 : ¬ x.rel = 1) (h4 : x.s.k.tmod (gcdL (x.s.l.map (·.c))) = 0) : tightS x = (⟨x.rel, ⟨x.s.k.tdiv (gcdL (x.s.l.map (·.c))), divT (gcdL (x.s.l.map (·.c))) x.s.l⟩⟩, true) := by
  unfold tightS; rw [if_neg h0, if_pos h, if_neg h1]; simp only []; rw [if_neg h2, if_neg h3, if_pos h4]
theorem tight_r2n {x : Cn} (h0 : ¬ (x.rel < 1 ∨ 3 < x.rel)) (h : isB x.s.l = true) (h1 : ¬ x.s.l.length = 0) (h2 : ¬ gcdL (x.s.l.map (·.c)) = 0) (h3 : ¬ x.rel = 1) (h4 : ¬ x.s.k.tmod (gcdL (x.s.l.map (·.c))) = 0) : tightS x = (⟨x.rel, ⟨1, []⟩⟩, true) := by
  unfold tightS; rw [if_neg h0, if_pos h, if_neg h1]; simp only []; rw [if_neg h2, if_neg h3, if_neg h4]
theorem lin_at {x : Ln} (h : x.ok) {k : Nat} (hk : k < x.l.length) : R64 x.l[k].var ∧ R64 x.l[k].c := h.2 _ (List.getElem_mem hk)
def lastV (l : List Tm) (k : Nat) : Int := if k = 0 then -1 else (l.getD (k-1) ⟨0,0⟩).var
theorem lastV_succ {l : List Tm} {k : Nat} (h : k < l.length) : lastV l (k + 1) = l[k].var := by
  simp [lastV, h]
end Go.Proofs.Ytlafnhpmhflnaaa.Q
