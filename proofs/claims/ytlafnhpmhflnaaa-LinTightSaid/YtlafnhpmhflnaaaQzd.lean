/- Sums of variables: the reference's Tight, Scale, Same. No condition. -/
import Derived.Test.YtlafnhpmhflnaaaQzc
set_option linter.unusedVariables false
set_option linter.unusedSectionVars false
set_option linter.unnecessarySimpa false
set_option linter.unusedSimpArgs false
set_option maxRecDepth 100000
set_option maxHeartbeats 4000000
namespace Go.Proofs.Ytlafnhpmhflnaaa.Q
open Go.RowKit
variable [Amb]
theorem sameT_not {a b : List Tm} {k : Nat} (h : k < a.length) (h2 : k < b.length) (e : tmEq a[k] b[k] = false) : sameT (a.drop k) (b.drop k) = false := by rw [sameT_at _ _ _ h h2, e]; rfl
theorem Same_c (x y : Ln) (hl : x.l.length < 1073741824) : PFun Try.prog 14 [x.v, y.v] [] (.d (.bool (sameS x y))) [] := by
  refine fn_sem pok 38 0 Try.func14 (by kernel_rfl) rfl rfl rfl rfl ?_
  refine SWp.go pok (by kernel_rfl) ?_
  refine brP_split (fun h => ?_) (fun h => ?_)
  · exact fin1 (dbool (by unfold sameS; have : (x.k == y.k) = false := by simpa using h
                          rw [this]; rfl))
  have h1 : (x.k == y.k) = true := by simpa using h
  refine brP_split (fun h => ?_) (fun h => ?_)
  · exact fin1 (dbool (by unfold sameS; have : (x.l.length == y.l.length) = false := by simp at h; simp; omega
                          rw [this, h1]; rfl))
  have h2 : x.l.length = y.l.length := by simp at h; omega
  have hs : sameS x y = sameT x.l y.l := by unfold sameS; rw [h1, h2]; simp
  refine SWp.loop (fun k : Nat => k ≤ x.l.length ∧ sameT (x.l.drop k) (y.l.drop k) = sameS x y)
    (fun k => ([(2, .ptr 0 0), (3, .ptr 1 0), (5, iv k)], [.box [.d (.int .i64 x.k), .d (.sl (x.l.map Tm.e))], .box [.d (.int .i64 y.k), .d (.sl (y.l.map Tm.e))]]))
    (fun k => x.l.length - k) 0 ⟨Nat.zero_le _, hs.symm⟩ (Le.same ⟨rfl, rfl, rfl, trivial⟩) (fun k hk => ?_)
  obtain ⟨hj, hk⟩ := hk
  refine SWp.go pok (by kernel_rfl) ?_
  refine brP_split (fun h => ?_) (fun h => ?_)
  · have hlt : k < x.l.length := by simpa using h
    have hlt2 : k < y.l.length := by omega
    refine PIdx.map (get_at hlt) ?_
    refine PIdx.map (get_at hlt2) ?_
    refine brP_split (fun h3 => ?_) (fun h3 => ?_)
    · exact fin1 (dbool (by rw [← hk]; refine (sameT_not hlt hlt2 ?_).symm; have e3 := (Bool.not_eq_true' _).mp h3; rw [Bool.and_true] at e3; exact e3))
    · have e : tmEq x.l[k] y.l[k] = true := by unfold tmEq; simpa using h3
      exact ⟨k + 1, ⟨hlt, by rw [← hk, sameT_at _ _ _ hlt hlt2, e]; rfl⟩, by omega, Le.same ⟨rfl, rfl, sint (wrap_nat k (by omega)), trivial⟩⟩
  · have hk' : k = x.l.length := by simp at h; omega
    exact fin1 (dbool (by rw [← hk, drop_nil hk']; rfl))
theorem refScale_c (x : Ln) (k : Int) (hx : x.ok) (hk : R64 k) : PFun Try.prog 25 [x.v, iv k] [] (lb (scaleS x k)) [] := by
  refine fn_sem pok 66 0 Try.func25 (by kernel_rfl) rfl rfl rfl rfl ?_
  refine SWp.go pok (by kernel_rfl) ?_
  refine PFun.call (refMul_c x.k k hx.1 hk) ?_
  refine brP_split (fun h => ?_) (fun h => ?_)
  · exact fin1 (by rw [scale_no1 (by simpa using h)]; rfl)
  have h1 : (mulS x.k k).2 = true := by simpa using h
  refine PFun.call (refIs_c x) ?_
  refine brP_split (fun h => ?_) (fun h => ?_)
  · exact fin1 (by rw [scale_no2 (by simpa using h)]; rfl)
  have h2 : isB x.l = true := by simpa using h
  have hlen := isB_len h2
  refine SWp.tipBox 2 1 2 rfl rfl ?_
  refine SWp.loop (fun p : Nat × List (List D) => ∃ acc : List Tm, p.2 = acc.map Tm.e ∧ p.1 ≤ x.l.length ∧ acc.length ≤ p.1 ∧ (scaleT k (x.l.drop p.1)).map (acc ++ ·) = scaleT k x.l)
    (fun p => ([(1, iv k), (2, .ptr 0 0), (4, .ptr 1 0), (8, .ptr 2 0), (9, iv p.1)], [.box [.d (.int .i64 x.k), .d (.sl (x.l.map Tm.e))], .box [iv 0, .fsl []], .box [iv (mulS x.k k).1, .gsl p.2 3], .tip 2 p.2.length]))
    (fun p => x.l.length - p.1) (0, []) ⟨[], rfl, Nat.zero_le _, Nat.le_refl _, by show (scaleT k x.l).map _ = scaleT k x.l; cases scaleT k x.l <;> simp⟩ (Le.same ⟨rfl, rfl, rfl, rfl, rfl, trivial⟩) (fun p hp => ?_)
  obtain ⟨j, rows⟩ := p
  obtain ⟨acc, hr, hj, hac, hs⟩ := hp
  simp only at hr hj hac hs
  subst hr
  refine SWp.go pok (by kernel_rfl) ?_
  refine brP_split (fun h => ?_) (fun h => ?_)
  · have hlt : j < x.l.length := by simpa using h
    have hat := scaleT_at k x.l j hlt
    refine PIdx.map (get_at hlt) ?_
    refine PFun.call (refMul_c x.l[j].c k (lin_at hx hlt).2 hk) ?_
    refine brP_split (fun h3 => ?_) (fun h3 => ?_)
    · refine fin1 ?_
      rw [scale_no3 (by rw [← hs, hat, if_neg (by simpa using h3)]; rfl)]; rfl
    · rw [if_pos (by simpa using h3)] at hat
      refine brP_split (fun h4 => ?_) (fun h4 => ?_)
      · have h4' : ¬ (mulS x.l[j].c k).1 = 0 := by simpa using h4
        refine PIdx.map (get_at hlt) ?_
        refine ⟨⟨rfl, RL_map acc, RL_one rfl, by simp; omega⟩, ?_⟩
        refine ⟨(j + 1, acc.map Tm.e ++ [Tm.e ⟨x.l[j].var, (mulS x.l[j].c k).1⟩]), ⟨acc ++ [⟨x.l[j].var, (mulS x.l[j].c k).1⟩], by simp, hlt, by simp; omega, ?_⟩, by show x.l.length - (j + 1) < x.l.length - j; omega, .inr ⟨[0, 1, 2, 3], ⟨rfl, rfl⟩, rfl, rfl, rfl, rfl, rfl, sint (wrap_nat j (by omega)), trivial⟩⟩
        rw [← hs, hat, ← opt_app]; simp only [if_neg h4']
      · have h4' : (mulS x.l[j].c k).1 = 0 := by simpa using h4
        refine ⟨(j + 1, acc.map Tm.e), ⟨acc, rfl, hlt, by show acc.length ≤ j + 1; omega, ?_⟩, by show x.l.length - (j + 1) < x.l.length - j; omega, .inr ⟨[0, 1, 2, 3], ⟨rfl, rfl⟩, rfl, rfl, rfl, rfl, rfl, sint (wrap_nat j (by omega)), trivial⟩⟩
        rw [← hs, hat]; simp only [if_pos h4', Option.map_id']
  · have hk : j = x.l.length := by simp at h; omega
    refine fin1 ?_
    rw [drop_nil hk] at hs
    rw [scale_yes h1 h2 hs.symm]
    simp [lb, Ln.v]
theorem RL_ic (l : List Tm) : RL (l.map fun t => ic t.c) 1 := fun r hr => by obtain ⟨t, _, rfl⟩ := List.mem_map.1 hr; rfl
theorem refTight_c (x : Cn) (hx : x.ok) : PFun Try.prog 19 [x.v] [] (cb (tightS x)) [] := by
  refine fn_sem pok 132 0 Try.func19 (by kernel_rfl) rfl rfl rfl rfl ?_
  refine SWp.go pok (by kernel_rfl) ?_
  refine brP_split (fun h => ?_) (fun h => ?_)
  · exact fin1 (cb_no (tight_no (.inl (by simpa using h))))
  refine brP_split (fun h' => ?_) (fun h' => ?_)
  · exact fin1 (cb_no (tight_no (.inr (by simpa using h'))))
  have t0 : ¬ (x.rel < 1 ∨ 3 < x.rel) := by simp at h h'; omega
  refine PFun.call (refIs_c x.s) ?_
  refine brP_split (fun h => ?_) (fun h => ?_)
  · exact fin1 (cb_no (tight_is (by simpa using h)))
  have t1 : isB x.s.l = true := by simpa using h
  have hlen := isB_len t1
  refine brP_split (fun h => ?_) (fun h => ?_)
  · exact fin1 (by rw [tight_nil t0 t1 (by simpa using h)]; rfl)
  have t2 : ¬ x.s.l.length = 0 := by simpa using h
  refine SWp.tipSlot 4 1 rfl ?_
  refine SWp.loop (fun p : Nat × List (List D) => p.1 ≤ x.s.l.length ∧ p.2 = (x.s.l.take p.1).map (fun t => ic t.c))
    (fun p => ([(1, .ptr 0 0), (2, .ptr 1 0), (4, .gsl p.2 2), (5, iv p.1)], [.box [.d (.int .i64 x.rel), .d (.int .i64 x.s.k), .d (.sl (x.s.l.map Tm.e))], .box [iv 0, iv 0, .fsl []], .tip 1 p.2.length]))
    (fun p => x.s.l.length - p.1) (0, []) ⟨Nat.zero_le _, rfl⟩ (Le.same ⟨rfl, rfl, rfl, rfl, trivial⟩) (fun p hp => ?_)
  obtain ⟨j, rows⟩ := p
  obtain ⟨hj, hs⟩ := hp
  simp only at hj hs
  subst hs
  refine SWp.go pok (by kernel_rfl) ?_
  refine brP_split (fun h => ?_) (fun h => ?_)
  · have hlt : j < x.s.l.length := by simpa using h
    refine PIdx.map (get_at hlt) ?_
    refine ⟨⟨rfl, RL_ic _, RL_one rfl, by simp; omega⟩, ?_⟩
    exact ⟨(j + 1, (x.s.l.take j).map (fun t => ic t.c) ++ [ic x.s.l[j].c]), ⟨hlt, by rw [take_snoc _ _ hlt, List.map_append]; rfl⟩, by show x.s.l.length - (j + 1) < x.s.l.length - j; omega, .inr ⟨[0, 1, 2], ⟨rfl, rfl⟩, rfl, rfl, rfl, rfl, sint (wrap_nat j (by omega)), trivial⟩⟩
  have hj' : j = x.s.l.length := by simp at h; omega
  have hc := refGcd_c (x.s.l.map (·.c)) (by simp; omega) (cs_r hx.2)
  rw [show ils (x.s.l.map (·.c)) = .d (.sl ((x.s.l.take j).map (fun t => ic t.c))) by rw [hj', List.take_length]; simp [List.map_map]] at hc
  refine PFun.call hc ?_
  obtain ⟨g, hg⟩ : ∃ g, gcdL (x.s.l.map (·.c)) = g := ⟨_, rfl⟩
  refine PFun.call (refNeg_c x.s.k hx.2.1) ?_
  refine brP_split (fun h => ?_) (fun h => ?_)
  · exact fin1 (cb_no (tight_g t2 (by simpa using h)))
  have t3 : ¬ gcdL (x.s.l.map (·.c)) = 0 := by simpa using h
  have hgp : 0 < g := by have := gcdL_nonneg (x.s.l.map (·.c)); omega
  have hg0 : g ≠ 0 := by omega
  refine brP_split (fun h4 => ?_) (fun h4 => ?_)
  · have t4 : x.rel = 1 := by simpa using h4
    refine brP_split (fun h5 => ?_) (fun h5 => ?_)
    · exact fin1 (cb_no (tight_r1n t0 t1 t2 t3 t4 (by simpa using h5)))
    have t5 : (negS x.s.k).2 = true := by simpa using h5
    refine brP_true (by simpa using t4) ?_
    obtain ⟨n1, n2⟩ := negdiv_r hx.2.1 hgp t5
    have hK : IntKind.i64.wrap (0 - divS (negS x.s.k).1 g) = -(divS (negS x.s.k).1 g) := (congrArg _ (Int.zero_sub _)).trans (wrap_in n2)
    rw [hg]
    refine PFun.call (refDiv_c (negS x.s.k).1 g n1) ?_
    refine SWp.tipBox 3 2 2 rfl rfl ?_
    refine SWp.loop (fun p : Nat × List (List D) => p.1 ≤ x.s.l.length ∧ p.2 = (divT g (x.s.l.take p.1)).map Tm.e)
      (fun p => ([(1, .ptr 0 0), (2, .ptr 1 0), (6, iv g), (9, .ptr 2 0), (10, iv p.1)], [.box [.d (.int .i64 x.rel), .d (.int .i64 x.s.k), .d (.sl (x.s.l.map Tm.e))], .box [iv 0, iv 0, .fsl []], .box [iv x.rel, iv (IntKind.i64.wrap (0 - divS (negS x.s.k).1 g)), .gsl p.2 3], .tip 2 p.2.length]))
      (fun p => x.s.l.length - p.1) (0, []) ⟨Nat.zero_le _, by simp [divT]⟩ (.inr ⟨[0, 1, 3, 4], ⟨rfl, rfl⟩, rfl, rfl, rfl, rfl, rfl, rfl, trivial⟩) (fun p hp => ?_)
    obtain ⟨j, rows⟩ := p
    obtain ⟨hj, hs⟩ := hp
    simp only at hj hs
    subst hs
    refine SWp.go pok (by kernel_rfl) ?_
    refine brP_split (fun h => ?_) (fun h => ?_)
    · have hlt : j < x.s.l.length := by simpa using h
      refine PIdx.map (get_at hlt) ?_
      refine PIdx.map (get_at hlt) ?_
      refine ⟨hg0, ?_⟩
      refine ⟨⟨rfl, RL_map _, RL_one rfl, by simp [divT]; omega⟩, ?_⟩
      exact ⟨(j + 1, (divT g (x.s.l.take j)).map Tm.e ++ [[.int .i64 x.s.l[j].var, .int .i64 (IntKind.i64.wrap (x.s.l[j].c.tdiv g))]]), ⟨hlt, by rw [wrap_in (div_down (lin_at hx.2 hlt).2 hgp).1]; exact (divT_snoc g hlt).symm⟩, by show x.s.l.length - (j + 1) < x.s.l.length - j; omega, .inr ⟨[0, 1, 2, 3], ⟨rfl, rfl⟩, rfl, rfl, rfl, rfl, rfl, sint (wrap_nat j (by omega)), trivial⟩⟩
    · have hk : j = x.s.l.length := by simp at h; omega
      refine fin1 ?_
      rw [tight_r1 t0 t1 t2 t3 t4 t5, hg, hk, List.take_length, ← t4, ← hK]; rfl
  · have t4 : ¬ x.rel = 1 := by simpa using h4
    refine brP_false (by simpa using t4) ?_
    have hK : IntKind.i64.wrap (x.s.k.tdiv g) = x.s.k.tdiv g := wrap_in (div_down hx.2.1 hgp).1
    rw [hg]
    refine ⟨hg0, ?_⟩
    refine brP_split (fun h5 => ?_) (fun h5 => ?_)
    · exact fin1 (by rw [tight_r2n t0 t1 t2 t3 t4 (by rw [hg]; simpa using h5)]; rfl)
    have t5 : x.s.k.tmod (gcdL (x.s.l.map (·.c))) = 0 := by rw [hg]; simpa using h5
    refine ⟨hg0, ?_⟩
    refine SWp.tipBox 3 2 2 rfl rfl ?_
    refine SWp.loop (fun p : Nat × List (List D) => p.1 ≤ x.s.l.length ∧ p.2 = (divT g (x.s.l.take p.1)).map Tm.e)
      (fun p => ([(1, .ptr 0 0), (2, .ptr 1 0), (6, iv g), (9, .ptr 2 0), (10, iv p.1)], [.box [.d (.int .i64 x.rel), .d (.int .i64 x.s.k), .d (.sl (x.s.l.map Tm.e))], .box [iv 0, iv 0, .fsl []], .box [iv x.rel, iv (IntKind.i64.wrap (x.s.k.tdiv g)), .gsl p.2 3], .tip 2 p.2.length]))
      (fun p => x.s.l.length - p.1) (0, []) ⟨Nat.zero_le _, by simp [divT]⟩ (.inr ⟨[0, 1, 3, 4], ⟨rfl, rfl⟩, rfl, rfl, rfl, rfl, rfl, rfl, trivial⟩) (fun p hp => ?_)
    obtain ⟨j, rows⟩ := p
    obtain ⟨hj, hs⟩ := hp
    simp only at hj hs
    subst hs
    refine SWp.go pok (by kernel_rfl) ?_
    refine brP_split (fun h => ?_) (fun h => ?_)
    · have hlt : j < x.s.l.length := by simpa using h
      refine PIdx.map (get_at hlt) ?_
      refine PIdx.map (get_at hlt) ?_
      refine ⟨hg0, ?_⟩
      refine ⟨⟨rfl, RL_map _, RL_one rfl, by simp [divT]; omega⟩, ?_⟩
      exact ⟨(j + 1, (divT g (x.s.l.take j)).map Tm.e ++ [[.int .i64 x.s.l[j].var, .int .i64 (IntKind.i64.wrap (x.s.l[j].c.tdiv g))]]), ⟨hlt, by rw [wrap_in (div_down (lin_at hx.2 hlt).2 hgp).1]; exact (divT_snoc g hlt).symm⟩, by show x.s.l.length - (j + 1) < x.s.l.length - j; omega, .inr ⟨[0, 1, 2, 3], ⟨rfl, rfl⟩, rfl, rfl, rfl, rfl, rfl, sint (wrap_nat j (by omega)), trivial⟩⟩
    · have hk : j = x.s.l.length := by simp at h; omega
      refine fin1 ?_
      rw [tight_r2 t0 t1 t2 t3 t4 t5, hg, hk, List.take_length, hK]; rfl
end Go.Proofs.Ytlafnhpmhflnaaa.Q
