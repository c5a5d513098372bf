/- Types: what an expression is. No condition. -/
import Derived.Test.YtlafnhpmhflnaaaQzs
set_option linter.unusedVariables false
set_option linter.unusedSectionVars false
set_option linter.unnecessarySimpa false
set_option linter.unusedSimpArgs false
set_option maxRecDepth 100000
set_option maxHeartbeats 4000000
namespace Go.Proofs.Ytlafnhpmhflnaaa.Q
open Go.RowKit
/-- The parts' types are looked at: what they must be; the first error. -/
def lookS (q : Int × (Int × Int)) (t pl : Int) : Int × (Int × Int) := (if q.1 = 0 then t else q.1, if t = (if q.1 = 0 then t else q.1) then q.2 else failS q.2 70 pl)
def looksS : Int × (Int × Int) → List Int → List Ex → Int × (Int × Int)
  | q, t :: ts, x :: xs => looksS (lookS q t x.pl) ts xs
  | q, _, _ => q
mutual
/-- What an expression is; the first error. -/
def Ex.ty (p : Pg) : Ex → Int × Int → Int × (Int × Int)
  | ⟨op, mon, name, n, kids, pl⟩, s =>
    if op = 4 then ((varS p mon name).1, if (varS p mon name).2 = true then s else failS s 61 pl)
    else ((sortS op).1, (looksS ((sortS op).2, (Ex.tys p kids s).2) (Ex.tys p kids s).1 kids).2)
def Ex.tys (p : Pg) : List Ex → Int × Int → List Int × (Int × Int)
  | [], s => ([], s)
  | x :: r, s => ((x.ty p s).1 :: (Ex.tys p r (x.ty p s).2).1, (Ex.tys p r (x.ty p s).2).2)
end
theorem Ex.ty_var {p : Pg} {x : Ex} {s : Int × Int} (h : x.op = 4) : x.ty p s = ((varS p x.mon x.name).1, if (varS p x.mon x.name).2 = true then s else failS s 61 x.pl) := by
  cases x; simp only at h; rw [Ex.ty, if_pos h]
theorem Ex.ty_not {p : Pg} {x : Ex} {s : Int × Int} (h : ¬ x.op = 4) : x.ty p s = ((sortS x.op).1, (looksS ((sortS x.op).2, (Ex.tys p x.kids s).2) (Ex.tys p x.kids s).1 x.kids).2) := by
  cases x; simp only at h; rw [Ex.ty, if_neg h]
theorem Ex.tys_len (p : Pg) : ∀ (l : List Ex) (s : Int × Int), (Ex.tys p l s).1.length = l.length
  | [], s => by simp [Ex.tys]
  | x :: r, s => by rw [Ex.tys]; simp [Ex.tys_len p r]
theorem Ex.tys_append (p : Pg) : ∀ (a b : List Ex) (s : Int × Int), Ex.tys p (a ++ b) s = ((Ex.tys p a s).1 ++ (Ex.tys p b (Ex.tys p a s).2).1, (Ex.tys p b (Ex.tys p a s).2).2)
  | [], b, s => by simp [Ex.tys]
  | x :: r, b, s => by rw [List.cons_append, Ex.tys, Ex.tys, Ex.tys_append p r]; rfl
theorem Ex.tys_snoc (p : Pg) {l : List Ex} {k : Nat} (h : k < l.length) (s : Int × Int) : Ex.tys p (l.take (k + 1)) s = ((Ex.tys p (l.take k) s).1 ++ [(l[k].ty p (Ex.tys p (l.take k) s).2).1], (l[k].ty p (Ex.tys p (l.take k) s).2).2) := by
  have e : l.take (k + 1) = l.take k ++ [l[k]] := by rw [List.take_add_one, List.getElem?_eq_getElem h]; rfl
  rw [e, Ex.tys_append]; simp [Ex.tys]
def icell (t : Int) : List D := [.int .i64 t]
/-- Numbers that are there so far, in an array of n. -/
def partI (l : List Int) (n : Nat) : List (List D) := l.map icell ++ List.replicate (n - l.length) (icell 0)
theorem partI_at {l : List Int} {n : Nat} (h : l.length < n) : (partI l n)[l.length]? = some (icell 0) := by
  unfold partI; rw [List.getElem?_append_right (by simp), List.getElem?_replicate, if_pos (by simp; omega)]
theorem partI_set {l : List Int} {n : Nat} (h : l.length < n) (t : Int) : (partI l n).set l.length (icell t) = partI (l ++ [t]) n := by
  unfold partI
  rw [List.set_append, if_neg (by simp)]
  have e1 : l.length - (l.map icell).length = 0 := by simp
  rw [e1, show n - l.length = (n - (l ++ [t]).length) + 1 by simp; omega, List.replicate_succ, List.set_cons_zero, List.map_append, List.append_assoc]
  rfl
theorem partI_all {l : List Int} {n : Nat} (h : l.length = n) : partI l n = l.map icell := by
  unfold partI; rw [h, Nat.sub_self]; simp
theorem looksS_snoc : ∀ (ts : List Int) (xs : List Ex) (q : Int × (Int × Int)) (k : Nat) (h : k < ts.length) (h' : k < xs.length), looksS q (ts.take (k + 1)) (xs.take (k + 1)) = lookS (looksS q (ts.take k) (xs.take k)) ts[k] xs[k].pl
  | t :: ts, x :: xs, q, 0, h, h' => by simp [looksS]
  | t :: ts, x :: xs, q, k + 1, h, h' => by
    simp only [List.take_succ_cons, looksS, List.getElem_cons_succ]
    exact looksS_snoc ts xs _ k (by simpa using h) (by simpa using h')
variable [Amb]
theorem expr_c (p : Pg) (hp : p.fits) (N : Nat) : ∀ (x : Ex) (s : Int × Int), x.pre.length ≤ N → x.pre.length < 1073741824 → (∀ y ∈ x.pre, 0 ≤ y.op ∧ y.op < 18) →
    PFun Try.prog 56 [.ptr 0 0, x.v] [chkB p s] (iv (x.ty p s).1) [chkB p (x.ty p s).2] := by
  induction N with
  | zero => intro x s h; have := x.pre_pos; omega
  | succ N ih =>
    intro x s hN hB hop
    have hkl := x.kids_len
    have hx := hop x (by rw [x.pre_eq]; exact List.mem_cons_self)
    refine fn_sem pok 81 1 Try.func56 (by kernel_rfl) rfl rfl rfl rfl ?_
    refine SWp.go pok (by kernel_rfl) ?_
    refine brP_split (fun h => ?_) (fun h => ?_)
    · have h : x.op = 4 := by simpa using h
      refine PFun.call (variable_c p s x.mon x.name hp) ?_
      refine brP_split (fun h2 => ?_) (fun h2 => ?_)
      · have h2 : ¬ (varS p x.mon x.name).2 = true := by simpa using h2
        refine PFun.call (fail_c p s 61 x.pl) ?_
        exact ⟨by rw [Ex.ty_var h], by rw [Ex.ty_var h, if_neg h2]; rfl⟩
      · have h2 : (varS p x.mon x.name).2 = true := by simpa using h2
        exact ⟨by rw [Ex.ty_var h], by rw [Ex.ty_var h, if_pos h2]; rfl⟩
    · have h : ¬ x.op = 4 := by simpa using h
      refine PFun.call (sortOf_c x.op hx.1 hx.2) ?_
      refine ⟨⟨by simp, by simp, by simp; omega⟩, rfl, ?_⟩
      refine SWp.loop (fun q : Nat × List (List D) × (Int × Int) => q.1 ≤ x.kids.length ∧ q.2.1 = partI (Ex.tys p (x.kids.take q.1) s).1 x.kids.length ∧ q.2.2 = (Ex.tys p (x.kids.take q.1) s).2)
        (fun q => ([(0, .ptr 0 0), (3, .ptr 1 0), (7, .ptr 2 0), (8, .arr 3 0 (x.kids.map Ex.e).length), (40, .d (.sl (x.kids.map Ex.e))), (41, iv (x.kids.map Ex.e).length), (42, iv q.1)], [chkB p q.2.2, .box x.cells, .box [iv (sortS x.op).1, iv (sortS x.op).2], .parr 1 q.2.1]))
        (fun q => x.kids.length - q.1) (0, List.replicate (x.kids.map Ex.e).length (icell 0), s) ⟨Nat.zero_le _, by simp [partI, Ex.tys], by simp [Ex.tys]⟩ (Le.same ⟨rfl, rfl, rfl, rfl, rfl, rfl, rfl, trivial⟩) (fun q hq => ?_)
      obtain ⟨k, rows, s1⟩ := q
      obtain ⟨hj, hs, hs1⟩ := hq
      simp only at hj hs hs1
      refine SWp.go pok (by kernel_rfl) ?_
      refine brP_split (fun h2 => ?_) (fun h2 => ?_)
      · have hlt : k < x.kids.length := by simpa using h2
        have hm := List.getElem_mem hlt
        have hlk := Ex.pre_kid hm
        have hsn := Ex.tys_snoc p hlt s
        have hln := Ex.tys_len p (x.kids.take k) s
        rw [← hs1] at hsn
        have hll : (Ex.tys p (x.kids.take k) s).1.length = k := by rw [hln]; simp; omega
        refine PIdx.ex hlt ?_
        refine PFun.call (ih x.kids[k] s1 (by omega) (by omega) (fun y hy => hop y (Ex.pre_sub hm hy))) ?_
        refine ⟨by simp; omega, ?_⟩
        refine ⟨icell 0, ?_, ?_⟩
        · show rows[0 + k]? = _
          rw [Nat.zero_add, hs]
          have := partI_at (l := (Ex.tys p (x.kids.take k) s).1) (n := x.kids.length) (by omega)
          rwa [hll] at this
        · exact ⟨(k + 1, rows.set (0 + k) (icell (x.kids[k].ty p s1).1), (x.kids[k].ty p s1).2), ⟨hlt, by
            rw [hsn, Nat.zero_add, hs]
            have := partI_set (l := (Ex.tys p (x.kids.take k) s).1) (n := x.kids.length) (by omega) (x.kids[k].ty p s1).1
            rwa [hll] at this, by rw [hsn]⟩, by show x.kids.length - (k + 1) < x.kids.length - k; omega, .inr ⟨[0, 1, 2, 3], ⟨rfl, rfl⟩, rfl, rfl, rfl, rfl, rfl, rfl, rfl, sint (wrap_nat k (by omega)), trivial⟩⟩
      · have hk : k = x.kids.length := by simp at h2; omega
        subst hk
        rw [List.take_length] at hs hs1
        obtain ⟨ts, hts⟩ : ∃ ts, (Ex.tys p x.kids s).1 = ts := ⟨_, rfl⟩
        have htl := Ex.tys_len p x.kids s
        rw [hts] at htl
        rw [hts, partI_all htl] at hs
        subst hs
        have hty : x.ty p s = ((sortS x.op).1, (looksS ((sortS x.op).2, s1) ts x.kids).2) := by rw [Ex.ty_not h, hts, ← hs1]
        refine SWp.loop (fun q : Nat × (Int × (Int × Int)) => q.1 ≤ x.kids.length ∧ q.2 = looksS ((sortS x.op).2, s1) (ts.take q.1) (x.kids.take q.1))
          (fun q => ([(0, .ptr 0 0), (3, .ptr 1 0), (7, .ptr 2 0), (54, .arr 3 0 (x.kids.map Ex.e).length), (55, iv (x.kids.map Ex.e).length), (56, iv q.1)], [chkB p q.2.2, .box x.cells, .box [iv (sortS x.op).1, iv q.2.1], .parr 1 (ts.map icell)]))
          (fun q => x.kids.length - q.1) (0, (sortS x.op).2, s1) ⟨Nat.zero_le _, by simp [looksS]⟩ (Le.same ⟨rfl, rfl, rfl, rfl, rfl, rfl, trivial⟩) (fun q hq => ?_)
        obtain ⟨k, pa, s2⟩ := q
        obtain ⟨hj, hq⟩ := hq
        simp only at hj hq
        refine SWp.go pok (by kernel_rfl) ?_
        refine brP_split (fun h3 => ?_) (fun h3 => ?_)
        · have hlt : k < x.kids.length := by simpa using h3
          have hlt2 : k < ts.length := by omega
          have hsn := looksS_snoc ts x.kids ((sortS x.op).2, s1) k hlt2 hlt
          rw [← hq] at hsn
          refine ⟨by simp; omega, ?_⟩
          refine ⟨icell ts[k], by simp [hlt2], ?_⟩
          refine brP_split (fun h4 => ?_) (fun h4 => ?_)
          · have h4 : pa = 0 := by simpa using h4
            have e : lookS (pa, s2) ts[k] x.kids[k].pl = (ts[k], s2) := by unfold lookS; rw [if_pos h4, if_pos rfl]
            rw [e] at hsn
            refine brP_false (by simp) ?_
            exact ⟨(k + 1, ts[k], s2), ⟨hlt, hsn.symm⟩, by show x.kids.length - (k + 1) < x.kids.length - k; omega, .inr ⟨[0, 1, 2, 3], ⟨rfl, rfl⟩, rfl, rfl, rfl, rfl, rfl, rfl, sint (wrap_nat k (by omega)), trivial⟩⟩
          · have h4 : ¬ pa = 0 := by simpa using h4
            refine brP_split (fun h5 => ?_) (fun h5 => ?_)
            · have h5 : ¬ ts[k] = pa := by simpa using h5
              have e : lookS (pa, s2) ts[k] x.kids[k].pl = (pa, failS s2 70 x.kids[k].pl) := by unfold lookS; simp only [if_neg h4, if_neg h5]
              rw [e] at hsn
              refine PIdx.ex hlt ?_
              refine PFun.call (fail_c p s2 70 x.kids[k].pl) ?_
              exact ⟨(k + 1, pa, failS s2 70 x.kids[k].pl), ⟨hlt, hsn.symm⟩, by show x.kids.length - (k + 1) < x.kids.length - k; omega, .inr ⟨[0, 1, 2, 3], ⟨rfl, rfl⟩, rfl, rfl, rfl, rfl, rfl, rfl, sint (wrap_nat k (by omega)), trivial⟩⟩
            · have h5 : ts[k] = pa := by simpa using h5
              have e : lookS (pa, s2) ts[k] x.kids[k].pl = (pa, s2) := by unfold lookS; simp only [if_neg h4, if_pos h5]
              rw [e] at hsn
              exact ⟨(k + 1, pa, s2), ⟨hlt, hsn.symm⟩, by show x.kids.length - (k + 1) < x.kids.length - k; omega, .inr ⟨[0, 1, 2, 3], ⟨rfl, rfl⟩, rfl, rfl, rfl, rfl, rfl, rfl, sint (wrap_nat k (by omega)), trivial⟩⟩
        · have hk : k = x.kids.length := by simp at h3; omega
          rw [hk, List.take_length, ← htl, List.take_length] at hq
          rw [← hq] at hty
          exact ⟨by rw [hty], by rw [hty]; rfl⟩
/-- What an expression is: a type, an error, and where. -/
def typeS (p : Pg) (x : Ex) : Int × Int × Int :=
  if checkS x = 0 then if (x.ty p (0, 0)).2.1 = 0 then ((x.ty p (0, 0)).1, 0, 0) else (0, (x.ty p (0, 0)).2.1, (x.ty p (0, 0)).2.2) else (0, checkS x, 0)
theorem partS_op {x : Ex} (h : isPartS x = true) : 0 ≤ x.op ∧ x.op < 18 := by
  unfold isPartS at h
  simp only [Bool.and_eq_true, beq_iff_eq] at h
  have h1 := h.1.1
  unfold partsS at h1
  split at h1
  · omega
  · split at h1
    · omega
    · omega
theorem checkS_ops {x : Ex} (h : checkS x = 0) : ∀ y ∈ x.pre, 0 ≤ y.op ∧ y.op < 18 := fun y hy => by
  unfold checkS at h
  cases ha : x.pre.all isPartS with
  | false => rw [ha] at h; cases h
  | true => exact partS_op (List.all_eq_true.1 ha y hy)
def v3 (q : Int × Int × Int) : V := .tup [iv q.1, iv q.2.1, iv q.2.2]
theorem type_c (p : Pg) (x : Ex) (hp : p.fits) (hx : x.fits) : PFun Try.prog 34 [p.v, x.v] [] (v3 (typeS p x)) [] := by
  refine fn_sem pok 34 0 Try.func34 (by kernel_rfl) rfl rfl rfl rfl ?_
  refine SWp.go pok (by kernel_rfl) ?_
  refine PFun.call (checkExpr_c x hx) ?_
  refine brP_split (fun h => ?_) (fun h => ?_)
  · have h : ¬ checkS x = 0 := by simpa using h
    exact fin1 (by unfold typeS; rw [if_neg h]; rfl)
  · have h : checkS x = 0 := by simpa using h
    refine PFun.call (newChecker_c p hp) ?_
    refine PFun.call (expr_c p hp _ x (0, 0) (Nat.le_refl _) hx.1 (checkS_ops h)) ?_
    refine brP_split (fun h2 => ?_) (fun h2 => ?_)
    · have h2 : ¬ (x.ty p (0, 0)).2.1 = 0 := by simpa using h2
      exact fin1 (by unfold typeS; rw [if_pos h, if_neg h2]; rfl)
    · have h2 : (x.ty p (0, 0)).2.1 = 0 := by simpa using h2
      exact fin1 (by unfold typeS; rw [if_pos h, if_pos h2]; rfl)
end Go.Proofs.Ytlafnhpmhflnaaa.Q
