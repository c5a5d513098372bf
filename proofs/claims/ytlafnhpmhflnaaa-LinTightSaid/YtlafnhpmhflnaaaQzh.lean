/- Sums of variables: the reference's sum is the sum. No condition. -/
import Derived.Test.YtlafnhpmhflnaaaQzg
set_option linter.unusedVariables false
set_option linter.unusedSectionVars false
set_option linter.unnecessarySimpa false
set_option linter.unusedSimpArgs false
set_option maxRecDepth 100000
namespace Go.Proofs.Ytlafnhpmhflnaaa.Q
open Go.RowKit
variable [Amb]
theorem sumT_congr {x x' y y' : List Tm} : ∀ (vs : List Int), (∀ v ∈ vs, ofF v x = ofF v x' ∧ ofF v y = ofF v y') → sumT x y vs = sumT x' y' vs
  | [], _ => rfl
  | v :: r, h => by
    obtain ⟨h1, h2⟩ := h v (by simp)
    unfold sumT
    rw [h1, h2, sumT_congr r fun w hw => h w (by simp [hw])]
theorem mem_varsF : ∀ (n : Nat) (x y : List Tm), x.length + y.length ≤ n → ∀ v ∈ varsF x y, (∃ t ∈ x, t.var = v) ∨ ∃ t ∈ y, t.var = v
  | n, [], [], _, v, h => by rw [varsF] at h; simp at h
  | 0, t :: x, _, h, _, _ => by simp at h
  | 0, [], u :: y, h, _, _ => by simp at h
  | n + 1, t :: x, [], h, v, hv => by
    rw [varsF] at hv
    rcases List.mem_cons.1 hv with e | hv
    · exact .inl ⟨t, by simp, e.symm⟩
    · rcases mem_varsF n x [] (by simp at h ⊢; omega) v hv with ⟨q, h1, h2⟩ | ⟨q, h1, h2⟩
      · exact .inl ⟨q, by simp [h1], h2⟩
      · exact .inr ⟨q, h1, h2⟩
  | n + 1, [], u :: y, h, v, hv => by
    rw [varsF] at hv
    rcases List.mem_cons.1 hv with e | hv
    · exact .inr ⟨u, by simp, e.symm⟩
    · rcases mem_varsF n [] y (by simp at h ⊢; omega) v hv with ⟨q, h1, h2⟩ | ⟨q, h1, h2⟩
      · exact .inl ⟨q, h1, h2⟩
      · exact .inr ⟨q, by simp [h1], h2⟩
  | n + 1, t :: x, u :: y, h, v, hv => by
    rw [varsF] at hv
    split at hv
    · rcases List.mem_cons.1 hv with e | hv
      · exact .inl ⟨t, by simp, e.symm⟩
      · rcases mem_varsF n x y (by simp at h ⊢; omega) v hv with ⟨q, h1, h2⟩ | ⟨q, h1, h2⟩
        · exact .inl ⟨q, by simp [h1], h2⟩
        · exact .inr ⟨q, by simp [h1], h2⟩
    · split at hv
      · rcases List.mem_cons.1 hv with e | hv
        · exact .inl ⟨t, by simp, e.symm⟩
        · rcases mem_varsF n x (u :: y) (by simp at h ⊢; omega) v hv with ⟨q, h1, h2⟩ | ⟨q, h1, h2⟩
          · exact .inl ⟨q, by simp [h1], h2⟩
          · exact .inr ⟨q, h1, h2⟩
      · rcases List.mem_cons.1 hv with e | hv
        · exact .inr ⟨u, by simp, e.symm⟩
        · rcases mem_varsF n (t :: x) y (by simp at h ⊢; omega) v hv with ⟨q, h1, h2⟩ | ⟨q, h1, h2⟩
          · exact .inl ⟨q, h1, h2⟩
          · exact .inr ⟨q, by simp [h1], h2⟩
theorem okFrom_cons {l : Int} {t : Tm} {r : List Tm} (h : okFrom l (t :: r) = true) : l < t.var ∧ okFrom t.var r = true := by
  unfold okFrom at h
  split at h
  · cases h
  · exact ⟨by omega, h⟩
theorem ofF_above {v l : Int} {r : List Tm} (h : okFrom l r = true) (hv : v ≤ l) : ofF v r = 0 := by
  have := okFrom_var h
  clear h
  induction r with
  | nil => rfl
  | cons t r ih =>
    unfold ofF
    rw [if_neg (by have := this t (by simp); omega)]
    exact ih fun q hq => this q (by simp [hq])
theorem ofF_tail {v : Int} {t : Tm} {r : List Tm} (h : t.var < v) : ofF v (t :: r) = ofF v r := by
  unfold ofF; rw [if_neg (by omega)]; cases r <;> rfl
theorem ofF_head {t : Tm} {r : List Tm} : ofF t.var (t :: r) = t.c := by unfold ofF; rw [if_pos rfl]
theorem addS_0r {a : Int} (h : R64 a) : addS a 0 = (a, true) := by unfold addS; rw [Int.add_zero]; exact told_yes h
theorem addS_0l {a : Int} (h : R64 a) : addS 0 a = (a, true) := by unfold addS; rw [Int.zero_add]; exact told_yes h
theorem sum_is_add : ∀ (n : Nat) (x y : List Tm) (lx ly : Int), x.length + y.length ≤ n → okFrom lx x = true → okFrom ly y = true → (∀ t ∈ x, t.ok) → (∀ t ∈ y, t.ok) → sumT x y (varsF x y) = addT x y
  | n, [], [], _, _, _, _, _, _, _ => by rw [varsF, addT]; rfl
  | 0, t :: x, _, _, _, h, _, _, _, _ => by simp at h
  | 0, [], u :: y, _, _, h, _, _, _, _ => by simp at h
  | n + 1, t :: x, [], lx, ly, h, ox, oy, kx, ky => by
    obtain ⟨o1, o2⟩ := okFrom_cons ox
    have ih := sum_is_add n x [] t.var ly (by simp at h ⊢; omega) o2 oy (fun q hq => kx q (by simp [hq])) ky
    rw [varsF, addT_xn, sumT, ofF_head, show ofF t.var [] = 0 from rfl, addS_0r (kx t (by simp)).2, if_pos rfl, ← ih]
    rw [sumT_congr (x' := x) (y' := []) (varsF x []) fun v hv => ⟨?_, rfl⟩]
    rcases mem_varsF _ x [] (Nat.le_refl _) v hv with ⟨q, h1, h2⟩ | ⟨q, h1, h2⟩
    · exact ofF_tail (by have := okFrom_var o2 q h1; omega)
    · simp at h1
  | n + 1, [], u :: y, lx, ly, h, ox, oy, kx, ky => by
    obtain ⟨o1, o2⟩ := okFrom_cons oy
    have ih := sum_is_add n [] y lx u.var (by simp at h ⊢; omega) ox o2 kx (fun q hq => ky q (by simp [hq]))
    rw [varsF, addT_ny, sumT, ofF_head, show ofF u.var [] = 0 from rfl, addS_0l (ky u (by simp)).2, if_pos rfl, ← ih]
    rw [sumT_congr (x' := []) (y' := y) (varsF [] y) fun v hv => ⟨rfl, ?_⟩]
    rcases mem_varsF _ [] y (Nat.le_refl _) v hv with ⟨q, h1, h2⟩ | ⟨q, h1, h2⟩
    · simp at h1
    · exact ofF_tail (by have := okFrom_var o2 q h1; omega)
  | n + 1, t :: x, u :: y, lx, ly, h, ox, oy, kx, ky => by
    obtain ⟨o1, o2⟩ := okFrom_cons ox
    obtain ⟨p1, p2⟩ := okFrom_cons oy
    rw [varsF]
    split
    · rename_i he
      have ih := sum_is_add n x y t.var u.var (by simp at h ⊢; omega) o2 p2 (fun q hq => kx q (by simp [hq])) (fun q hq => ky q (by simp [hq]))
      have e2 : ofF t.var (u :: y) = u.c := by rw [he]; exact ofF_head
      rw [sumT, ofF_head, e2]
      have hc : sumT (t :: x) (u :: y) (varsF x y) = sumT x y (varsF x y) := sumT_congr _ fun v hv => by
        have hb : t.var < v := by
          rcases mem_varsF _ x y (Nat.le_refl _) v hv with ⟨q, h1, h2⟩ | ⟨q, h1, h2⟩
          · have := okFrom_var o2 q h1; omega
          · have := okFrom_var p2 q h1; omega
        exact ⟨ofF_tail hb, ofF_tail (by omega)⟩
      rw [hc, ih]
      by_cases hs : (addS t.c u.c).2 = true
      · rw [if_pos hs, addT_eq x y (by omega) (by omega) hs]
      · rw [if_neg hs, addT_no x y (by omega) (by omega) hs]
    · rename_i hne
      split
      · rename_i hle
        have hlt : t.var < u.var := by omega
        have ih := sum_is_add n x (u :: y) t.var ly (by simp at h ⊢; omega) o2 oy (fun q hq => kx q (by simp [hq])) ky
        have e2 : ofF t.var (u :: y) = 0 := by unfold ofF; rw [if_neg (by omega)]; exact ofF_above p2 (by omega)
        rw [sumT, ofF_head, e2, addS_0r (kx t (by simp)).2, if_pos rfl, addT_lt x y hlt, ← ih]
        rw [sumT_congr (x' := x) (y' := u :: y) (varsF x (u :: y)) fun v hv => ⟨?_, rfl⟩]
        rcases mem_varsF _ x (u :: y) (Nat.le_refl _) v hv with ⟨q, h1, h2⟩ | ⟨q, h1, h2⟩
        · exact ofF_tail (by have := okFrom_var o2 q h1; omega)
        · rcases List.mem_cons.1 h1 with e | h1
          · subst e; exact ofF_tail (by omega)
          · exact ofF_tail (by have := okFrom_var p2 q h1; omega)
      · rename_i hle
        have hlt : u.var < t.var := by omega
        have ih := sum_is_add n (t :: x) y lx u.var (by simp at h ⊢; omega) ox p2 kx (fun q hq => ky q (by simp [hq]))
        have e2 : ofF u.var (t :: x) = 0 := by unfold ofF; rw [if_neg (by omega)]; exact ofF_above o2 (by omega)
        rw [sumT, ofF_head, e2, addS_0l (ky u (by simp)).2, if_pos rfl, addT_gt x y hlt, ← ih]
        rw [sumT_congr (x' := t :: x) (y' := y) (varsF (t :: x) y) fun v hv => ⟨rfl, ?_⟩]
        rcases mem_varsF _ (t :: x) y (Nat.le_refl _) v hv with ⟨q, h1, h2⟩ | ⟨q, h1, h2⟩
        · rcases List.mem_cons.1 h1 with e | h1
          · subst e; exact ofF_tail (by omega)
          · exact ofF_tail (by have := okFrom_var o2 q h1; omega)
        · exact ofF_tail (by have := okFrom_var p2 q h1; omega)
theorem isB_ok {l : List Tm} (h : isB l = true) : okFrom (-1) l = true := by unfold isB at h; simp only [Bool.and_eq_true] at h; exact h.2
theorem refAddL_eq (x y : Ln) (hx : x.ok) (hy : y.ok) : refAddL x y = addL x y := by
  unfold refAddL addL
  by_cases h : isB x.l = true ∧ isB y.l = true ∧ (addS x.k y.k).2 = true
  · rw [if_pos h, if_pos h, sum_is_add _ x.l y.l (-1) (-1) (Nat.le_refl _) (isB_ok h.1) (isB_ok h.2.1) hx.2 hy.2]
    cases addT x.l y.l <;> rfl
  · rw [if_neg h, if_neg h]
end Go.Proofs.Ytlafnhpmhflnaaa.Q
