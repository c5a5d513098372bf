/- Sums of variables: the reference's sums of two. No condition. -/
import Derived.Test.YtlafnhpmhflnaaaQze
set_option linter.unusedVariables false
set_option linter.unusedSectionVars false
set_option linter.unnecessarySimpa false
set_option linter.unusedSimpArgs false
set_option maxRecDepth 100000
set_option maxHeartbeats 4000000
namespace Go.Proofs.Ytlafnhpmhflnaaa.Q
open Go.RowKit
variable [Amb]
def ofF (v : Int) : List Tm → Int
  | [] => 0
  | t :: r => if t.var = v then t.c else ofF v r
theorem ofF_at (v : Int) {l : List Tm} {k : Nat} (h : k < l.length) : ofF v (l.drop k) = if l[k].var = v then l[k].c else ofF v (l.drop (k + 1)) := by rw [List.drop_eq_getElem_cons h]; rfl
theorem of_c (x : Ln) (v : Int) (hl : x.l.length < 1073741824) : PFun Try.prog 47 [x.v, iv v] [] (iv (ofF v x.l)) [] := by
  refine fn_sem pok 27 0 Try.func47 (by kernel_rfl) rfl rfl rfl rfl ?_
  refine SWp.go pok (by kernel_rfl) ?_
  refine SWp.loop (fun k : Nat => k ≤ x.l.length ∧ ofF v (x.l.drop k) = ofF v x.l) (fun k => ([(1, iv v), (2, .ptr 0 0), (5, iv k)], [.box [.d (.int .i64 x.k), .d (.sl (x.l.map Tm.e))]])) (fun k => x.l.length - k) 0 ⟨Nat.zero_le _, rfl⟩ (Le.same ⟨rfl, rfl, rfl, trivial⟩) (fun k hk => ?_)
  obtain ⟨hj, hk⟩ := hk
  refine SWp.go pok (by kernel_rfl) ?_
  refine brP_split (fun h => ?_) (fun h => ?_)
  · have hlt : k < x.l.length := by simpa using h
    have hat := ofF_at v hlt
    refine PIdx.map (get_at hlt) ?_
    refine brP_split (fun h3 => ?_) (fun h3 => ?_)
    · refine PIdx.map (get_at hlt) ?_
      exact fin1 (dint (by rw [← hk, hat, if_pos (by simpa using h3)]))
    · exact ⟨k + 1, ⟨hlt, by rw [← hk, hat, if_neg (by simpa using h3)]⟩, by omega, Le.same ⟨rfl, rfl, sint (wrap_nat k (by omega)), trivial⟩⟩
  · have hk' : k = x.l.length := by simp at h; omega
    exact fin1 (dint (by rw [← hk, drop_nil hk']; rfl))
def varsF : List Tm → List Tm → List Int
  | [], [] => []
  | t :: x, [] => t.var :: varsF x []
  | [], u :: y => u.var :: varsF [] y
  | t :: x, u :: y => if t.var = u.var then t.var :: varsF x y else if t.var ≤ u.var then t.var :: varsF x (u :: y) else u.var :: varsF (t :: x) y
termination_by x y => x.length + y.length
theorem varsF_x {x y : List Tm} {i k : Nat} (hi : i < x.length) (hk : k = y.length) : varsF (x.drop i) (y.drop k) = x[i].var :: varsF (x.drop (i + 1)) (y.drop k) := by
  rw [drop_nil hk, List.drop_eq_getElem_cons hi, varsF]
theorem varsF_y {x y : List Tm} {i k : Nat} (hi : i = x.length) (hk : k < y.length) : varsF (x.drop i) (y.drop k) = y[k].var :: varsF (x.drop i) (y.drop (k + 1)) := by
  rw [drop_nil hi, List.drop_eq_getElem_cons hk, varsF]
theorem varsF_eq {x y : List Tm} {i k : Nat} (hi : i < x.length) (hk : k < y.length) (h : x[i].var = y[k].var) : varsF (x.drop i) (y.drop k) = x[i].var :: varsF (x.drop (i + 1)) (y.drop (k + 1)) := by
  rw [List.drop_eq_getElem_cons hi, List.drop_eq_getElem_cons hk, varsF, if_pos h]
theorem varsF_lt {x y : List Tm} {i k : Nat} (hi : i < x.length) (hk : k < y.length) (h : ¬ x[i].var = y[k].var) (g : x[i].var ≤ y[k].var) : varsF (x.drop i) (y.drop k) = x[i].var :: varsF (x.drop (i + 1)) (y.drop k) := by
  rw [List.drop_eq_getElem_cons hi, List.drop_eq_getElem_cons hk, varsF, if_neg h, if_pos g]
theorem varsF_gt {x y : List Tm} {i k : Nat} (hi : i < x.length) (hk : k < y.length) (g : ¬ x[i].var ≤ y[k].var) : varsF (x.drop i) (y.drop k) = y[k].var :: varsF (x.drop i) (y.drop (k + 1)) := by
  rw [List.drop_eq_getElem_cons hi, List.drop_eq_getElem_cons hk, varsF, if_neg (by omega), if_neg g]
theorem RL_is (l : List Int) : RL (l.map ic) 1 := fun r hr => by obtain ⟨t, _, rfl⟩ := List.mem_map.1 hr; rfl
theorem vars_c (x y : Ln) (hx : x.l.length ≤ 40) (hy : y.l.length ≤ 40) : PFun Try.prog 46 [x.v, y.v] [] (ils (varsF x.l y.l)) [] := by
  refine fn_sem pok 92 0 Try.func46 (by kernel_rfl) rfl rfl rfl rfl ?_
  refine SWp.go pok (by kernel_rfl) ?_
  refine SWp.tipSlot 5 1 rfl ?_
  refine SWp.loop (fun p : Nat × Nat × List (List D) => ∃ acc : List Int, p.2.2 = acc.map ic ∧ p.1 ≤ x.l.length ∧ p.2.1 ≤ y.l.length ∧ acc.length ≤ p.1 + p.2.1 ∧ acc ++ varsF (x.l.drop p.1) (y.l.drop p.2.1) = varsF x.l y.l)
    (fun p => ([(2, .ptr 0 0), (3, .ptr 1 0), (5, .gsl p.2.2 2), (6, iv p.1), (7, iv p.2.1)], [.box [.d (.int .i64 x.k), .d (.sl (x.l.map Tm.e))], .box [.d (.int .i64 y.k), .d (.sl (y.l.map Tm.e))], .tip 1 p.2.2.length]))
    (fun p => (x.l.length - p.1) + (y.l.length - p.2.1)) (0, 0, []) ⟨[], rfl, Nat.zero_le _, Nat.zero_le _, Nat.zero_le _, rfl⟩ (Le.same ⟨rfl, rfl, rfl, rfl, rfl, trivial⟩) (fun p hp => ?_)
  obtain ⟨i, k, rows⟩ := p
  obtain ⟨acc, hr, hi, hk, ha, hs⟩ := hp
  simp only at hr hi hk ha hs
  subst hr
  have wi : IntKind.i64.wrap ((i : Int) + 1) = ((i + 1 : Nat) : Int) := wrap_nat i (by omega)
  have wk : IntKind.i64.wrap ((k : Int) + 1) = ((k + 1 : Nat) : Int) := wrap_nat k (by omega)
  refine SWp.go pok (by kernel_rfl) ?_
  refine brP_split (fun h1 => ?_) (fun h1 => ?_)
  · have hlt : i < x.l.length := by simpa using h1
    refine brP_split (fun h2 => ?_) (fun h2 => ?_)
    · have hke : k = y.l.length := by simp at h2; omega
      refine brP_split (fun h3 => ?_) (fun h3 => ?_)
      · exfalso; simp at h3; omega
      · refine PIdx.map (get_at hlt) ?_
        refine ⟨⟨rfl, RL_is acc, RL_one rfl, by simp; omega⟩, ?_⟩
        exact ⟨(i + 1, k, acc.map ic ++ [ic x.l[i].var]), ⟨acc ++ [x.l[i].var], by simp, by show i + 1 ≤ x.l.length; omega, by show k ≤ y.l.length; omega, by simp; omega, by rw [← hs, varsF_x hlt hke]; simp⟩, by show (x.l.length - (i + 1)) + (y.l.length - (k)) < (x.l.length - i) + (y.l.length - k); omega, .inr ⟨[0, 1, 2], ⟨rfl, rfl⟩, rfl, rfl, rfl, rfl, sint wi, rfl, trivial⟩⟩
    · have hkl : k < y.l.length := by simp at h2; omega
      refine brP_split (fun h3 => ?_) (fun h3 => ?_)
      rotate_left
      · exfalso; simp at h3; omega
      refine PIdx.map (get_at hlt) ?_
      refine PIdx.map (get_at hkl) ?_
      refine brP_split (fun h4 => ?_) (fun h4 => ?_)
      · have h4' : x.l[i].var ≤ y.l[k].var := by simpa using h4
        refine brP_split (fun h3 => ?_) (fun h3 => ?_)
        rotate_left
        · exfalso; simp at h3; omega
        refine PIdx.map (get_at hlt) ?_
        refine PIdx.map (get_at hkl) ?_
        refine brP_split (fun h5 => ?_) (fun h5 => ?_)
        · have h5' : x.l[i].var = y.l[k].var := by simpa using h5
          refine PIdx.map (get_at hlt) ?_
          refine ⟨⟨rfl, RL_is acc, RL_one rfl, by simp; omega⟩, ?_⟩
          exact ⟨(i + 1, k + 1, acc.map ic ++ [ic x.l[i].var]), ⟨acc ++ [x.l[i].var], by simp, by show i + 1 ≤ x.l.length; omega, by show k + 1 ≤ y.l.length; omega, by simp; omega, by rw [← hs, varsF_eq hlt hkl h5']; simp⟩, by show (x.l.length - (i + 1)) + (y.l.length - (k + 1)) < (x.l.length - i) + (y.l.length - k); omega, .inr ⟨[0, 1, 2], ⟨rfl, rfl⟩, rfl, rfl, rfl, rfl, sint wi, sint wk, trivial⟩⟩
        · have h5' : ¬ x.l[i].var = y.l[k].var := by simpa using h5
          refine PIdx.map (get_at hlt) ?_
          refine ⟨⟨rfl, RL_is acc, RL_one rfl, by simp; omega⟩, ?_⟩
          exact ⟨(i + 1, k, acc.map ic ++ [ic x.l[i].var]), ⟨acc ++ [x.l[i].var], by simp, by show i + 1 ≤ x.l.length; omega, by show k ≤ y.l.length; omega, by simp; omega, by rw [← hs, varsF_lt hlt hkl h5' h4']; simp⟩, by show (x.l.length - (i + 1)) + (y.l.length - (k)) < (x.l.length - i) + (y.l.length - k); omega, .inr ⟨[0, 1, 2], ⟨rfl, rfl⟩, rfl, rfl, rfl, rfl, sint wi, rfl, trivial⟩⟩
      · have h4' : ¬ x.l[i].var ≤ y.l[k].var := by simpa using h4
        refine PIdx.map (get_at hkl) ?_
        refine ⟨⟨rfl, RL_is acc, RL_one rfl, by simp; omega⟩, ?_⟩
        exact ⟨(i, k + 1, acc.map ic ++ [ic y.l[k].var]), ⟨acc ++ [y.l[k].var], by simp, by show i ≤ x.l.length; omega, by show k + 1 ≤ y.l.length; omega, by simp; omega, by rw [← hs, varsF_gt hlt hkl h4']; simp⟩, by show (x.l.length - (i)) + (y.l.length - (k + 1)) < (x.l.length - i) + (y.l.length - k); omega, .inr ⟨[0, 1, 2], ⟨rfl, rfl⟩, rfl, rfl, rfl, rfl, rfl, sint wk, trivial⟩⟩
  · have hie : i = x.l.length := by simp at h1; omega
    refine brP_split (fun h2 => ?_) (fun h2 => ?_)
    · have hkl : k < y.l.length := by simpa using h2
      refine brP_split (fun h3 => ?_) (fun h3 => ?_)
      · exfalso; simp at h3; omega
      refine brP_split (fun h3 => ?_) (fun h3 => ?_)
      · exfalso; simp at h3; omega
      refine PIdx.map (get_at hkl) ?_
      refine ⟨⟨rfl, RL_is acc, RL_one rfl, by simp; omega⟩, ?_⟩
      exact ⟨(i, k + 1, acc.map ic ++ [ic y.l[k].var]), ⟨acc ++ [y.l[k].var], by simp, by show i ≤ x.l.length; omega, by show k + 1 ≤ y.l.length; omega, by simp; omega, by rw [← hs, varsF_y hie hkl]; simp⟩, by show (x.l.length - (i)) + (y.l.length - (k + 1)) < (x.l.length - i) + (y.l.length - k); omega, .inr ⟨[0, 1, 2], ⟨rfl, rfl⟩, rfl, rfl, rfl, rfl, rfl, sint wk, trivial⟩⟩
    · have hke : k = y.l.length := by simp at h2; omega
      refine fin1 ?_
      rw [drop_nil hie, drop_nil hke, show varsF [] [] = [] from by rw [varsF]] at hs
      rw [← hs, List.append_nil]
end Go.Proofs.Ytlafnhpmhflnaaa.Q
