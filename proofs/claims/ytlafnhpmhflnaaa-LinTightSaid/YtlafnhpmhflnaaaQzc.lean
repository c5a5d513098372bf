/- Sums of variables: demands, tightened, both ways. No condition. -/
import Derived.Test.YtlafnhpmhflnaaaQzb
set_option linter.unusedVariables false
set_option linter.unusedSectionVars false
set_option linter.unnecessarySimpa false
set_option linter.unusedSimpArgs false
set_option maxRecDepth 100000
set_option maxHeartbeats 4000000
namespace Go.Proofs.Ytlafnhpmhflnaaa.Q
open Go.RowKit
variable [Amb]
theorem cs_r {x : Ln} (h : x.ok) : ∀ n ∈ x.l.map (·.c), R64 n := fun n hn => by
  obtain ⟨t, ht, rfl⟩ := List.mem_map.1 hn
  exact (h.2 t ht).2
def part (l : List Tm) (k : Nat) : List (List D) := (l.take k).map (fun t => ic t.c) ++ List.replicate (l.length - k) (ic 0)
theorem part_len (l : List Tm) (k : Nat) (h : k ≤ l.length) : (part l k).length = l.length := by simp [part]; omega
theorem part_set (l : List Tm) (k : Nat) (h : k < l.length) : (part l k).set k (ic l[k].c) = part l (k + 1) := by
  unfold part
  rw [take_snoc l k h, List.map_append, List.set_append, if_neg (by simp; omega)]
  have e1 : k - ((l.take k).map (fun t => ic t.c)).length = 0 := by simp; omega
  rw [e1, show l.length - k = (l.length - (k + 1)) + 1 by omega, List.replicate_succ, List.set_cons_zero, List.append_assoc]
  rfl
theorem part_at (l : List Tm) (k : Nat) (h : k < l.length) : (part l k)[k]? = some (ic 0) := by
  unfold part
  rw [List.getElem?_append_right (by simp; omega), List.getElem?_replicate, if_pos (by simp; omega)]
theorem part_all (l : List Tm) : part l l.length = (l.map (·.c)).map ic := by simp [part, List.map_map]
theorem divisor_c (x : Ln) (hx : x.ok) (hl : x.l.length < 1073741824) : PFun Try.prog 40 [x.v] [] (iv (gcdL (x.l.map (·.c)))) [] := by
  refine fn_sem pok 26 0 Try.func40 (by kernel_rfl) rfl rfl rfl rfl ?_
  refine SWp.go pok (by kernel_rfl) ?_
  refine ⟨⟨by simp, by simp, by simp; omega⟩, rfl, ?_⟩
  refine SWp.loop (fun p : Nat × List (List D) => p.1 ≤ x.l.length ∧ p.2 = part x.l p.1)
    (fun p => ([(3, .arr 1 0 (x.l.map Tm.e).length), (11, .d (.sl (x.l.map Tm.e))), (12, iv (x.l.map Tm.e).length), (13, iv p.1)], [.box [.d (.int .i64 x.k), .d (.sl (x.l.map Tm.e))], .parr 1 p.2]))
    (fun p => x.l.length - p.1) (0, List.replicate (x.l.map Tm.e).length (ic 0)) ⟨Nat.zero_le _, by simp [part]⟩ (Le.same ⟨rfl, rfl, rfl, rfl, trivial⟩) (fun p hp => ?_)
  obtain ⟨j, rows⟩ := p
  obtain ⟨hj, hs⟩ := hp
  simp only at hj hs
  subst hs
  refine SWp.go pok (by kernel_rfl) ?_
  refine brP_split (fun h => ?_) (fun h => ?_)
  · have hlt : j < x.l.length := by simpa using h
    refine PIdx.map (get_at hlt) ?_
    refine ⟨by simp; omega, ?_⟩
    refine ⟨ic 0, ?_, ?_⟩
    · show (part x.l j)[0 + j]? = _
      rw [Nat.zero_add]; exact part_at x.l j hlt
    · exact ⟨(j + 1, (part x.l j).set (0 + j) (ic x.l[j].c)), ⟨hlt, by rw [Nat.zero_add]; exact part_set x.l j hlt⟩, by show x.l.length - (j + 1) < x.l.length - j; omega, .inr ⟨[0, 1], ⟨rfl, rfl⟩, rfl, rfl, rfl, rfl, sint (wrap_nat j (by omega)), trivial⟩⟩
  · have hk : j = x.l.length := by simp at h; omega
    subst hk
    rw [part_all]
    refine PCalls.freeze (e := 1) (rows := (x.l.map (·.c)).map ic) 0 0 (congrArg (fun n => some (V.arr 0 0 n)) (by simp)) rfl ?_
    exact PFun.frame (numGcd_c _ (by simp; omega) (cs_r hx)) rfl rfl (fin1 rfl)
theorem negdiv_r {k g : Int} (hk : R64 k) (hg : 0 < g) (h : (negS k).2 = true) : R64 (negS k).1 ∧ R64 (-(divS (negS k).1 g)) := by
  have hr : R64 (-k) := by
    by_cases q : R64 (-k)
    · exact q
    · unfold negS at h; rw [told_no q] at h; cases h
  have e : (negS k).1 = -k := by unfold negS; rw [told_yes hr]
  rw [e]
  refine ⟨hr, ?_⟩
  unfold divS
  rw [if_neg (by omega)]
  obtain ⟨_, _, _, _, r⟩ := div_down hr hg
  unfold R64 at r hr hk ⊢
  rcases Int.lt_or_le (-k) 0 with n | n
  · have e1 : -k ≤ -k / g := Int.le_ediv_of_mul_le hg (by have := Int.mul_le_mul_of_nonpos_left (a := -k) (b := g) (c := 1) (by omega) (by omega); omega)
    omega
  · have e1 : 0 ≤ -k / g := Int.ediv_nonneg n (by omega)
    omega
theorem divT_snoc (g : Int) {l : List Tm} {j : Nat} (h : j < l.length) : (divT g (l.take (j + 1))).map Tm.e = (divT g (l.take j)).map Tm.e ++ [[.int .i64 l[j].var, .int .i64 (l[j].c.tdiv g)]] := by
  unfold divT; rw [take_snoc l j h, List.map_append, List.map_append]; rfl
theorem cb_no {p : Cn × Bool} (h : p = noCn) : V.tup [.agg [iv 0, iv 0, .d (.sl [])], .d (.bool false)] = cb p := by rw [h]; rfl
theorem linTight_c (x : Cn) (hx : x.ok) : PFun Try.prog 18 [x.v] [] (cb (tightS x)) [] := by
  refine fn_sem pok 105 0 Try.func18 (by kernel_rfl) rfl rfl rfl rfl ?_
  refine SWp.go pok (by kernel_rfl) ?_
  refine SWp.scope 0 rfl (fun _ : Unit => tightS x = noCn) (fun _ => ([(2, .ptr 0 0)], [.box [iv 0, iv 0, .fsl []]])) (fun _ => 0) ?_ (fun p hp => ?_)
  rotate_left
  · refine SWp.go pok (by kernel_rfl) ?_
    exact fin1 (cb_no hp)
  refine SWp.go pok (by kernel_rfl) ?_
  have none : tightS x = noCn → ∀ ρ H, Le 0 [(2, .ptr 0 0)] [.box [iv 0, iv 0, .fsl []]] ρ H → ∃ _ : Unit, tightS x = noCn ∧ Le 0 [(2, .ptr 0 0)] [.box [iv 0, iv 0, .fsl []]] ρ H := fun h _ _ k => ⟨(), h, k⟩
  refine brP_split (fun h => ?_) (fun h => ?_)
  · exact none (tight_no (.inl (by simpa using h))) _ _ (.inr ⟨[1], ⟨rfl, rfl⟩, rfl, rfl, trivial⟩)
  refine brP_split (fun h' => ?_) (fun h' => ?_)
  · exact none (tight_no (.inr (by simpa using h'))) _ _ (.inr ⟨[1], ⟨rfl, rfl⟩, rfl, rfl, trivial⟩)
  have t0 : ¬ (x.rel < 1 ∨ 3 < x.rel) := by simp at h h'; omega
  refine PFun.call (linIs_c x.s) ?_
  refine brP_split (fun h => ?_) (fun h => ?_)
  · exact none (tight_is (by simpa using h)) _ _ (.inr ⟨[1], ⟨rfl, rfl⟩, rfl, rfl, trivial⟩)
  have t1 : isB x.s.l = true := by simpa using h
  have hlen := isB_len t1
  refine brP_split (fun h => ?_) (fun h => ?_)
  · exact fin1 (by rw [tight_nil t0 t1 (by simpa using h)]; rfl)
  have t2 : ¬ x.s.l.length = 0 := by simpa using h
  refine PFun.call (divisor_c x.s hx.2 (by omega)) ?_
  refine brP_split (fun h => ?_) (fun h => ?_)
  · exact none (tight_g t2 (by simpa using h)) _ _ (.inr ⟨[1], ⟨rfl, rfl⟩, rfl, rfl, trivial⟩)
  have t3 : ¬ gcdL (x.s.l.map (·.c)) = 0 := by simpa using h
  obtain ⟨g, hg⟩ : ∃ g, gcdL (x.s.l.map (·.c)) = g := ⟨_, rfl⟩
  have hgp : 0 < g := by have := gcdL_nonneg (x.s.l.map (·.c)); omega
  have hg0 : g ≠ 0 := by omega
  refine PFun.call (numNeg_c x.s.k hx.2.1) ?_
  refine brP_split (fun h4 => ?_) (fun h4 => ?_)
  · have t4 : x.rel = 1 := by simpa using h4
    refine brP_split (fun h5 => ?_) (fun h5 => ?_)
    · exact none (tight_r1n t0 t1 t2 t3 t4 (by simpa using h5)) _ _ (.inr ⟨[1], ⟨rfl, rfl⟩, rfl, rfl, trivial⟩)
    have t5 : (negS x.s.k).2 = true := by simpa using h5
    refine brP_true (by simpa using t4) ?_
    obtain ⟨n1, n2⟩ := negdiv_r hx.2.1 hgp t5
    rw [hg]
    refine PFun.call (numDiv_c (negS x.s.k).1 g n1) ?_
    have hK : IntKind.i64.wrap (0 - divS (negS x.s.k).1 g) = -(divS (negS x.s.k).1 g) := (congrArg _ (Int.zero_sub _)).trans (wrap_in n2)
    refine SWp.tipBox 2 2 2 rfl rfl ?_
    refine SWp.loop (fun p : Nat × List (List D) => p.1 ≤ x.s.l.length ∧ p.2 = (divT g (x.s.l.take p.1)).map Tm.e)
      (fun p => ([(1, .ptr 0 0), (2, .ptr 1 0), (4, .ptr 2 0), (5, iv g), (82, .d (.sl (x.s.l.map Tm.e))), (83, iv (x.s.l.map Tm.e).length), (84, iv p.1)], [.box [.d (.int .i64 x.rel), .d (.int .i64 x.s.k), .d (.sl (x.s.l.map Tm.e))], .box [iv 0, iv 0, .fsl []], .box [iv x.rel, iv (IntKind.i64.wrap (0 - divS (negS x.s.k).1 g)), .gsl p.2 3], .tip 2 p.2.length]))
      (fun p => x.s.l.length - p.1) (0, []) ⟨Nat.zero_le _, by simp [divT]⟩ (Le.same ⟨rfl, rfl, rfl, rfl, rfl, rfl, rfl, trivial⟩) (fun p hp => ?_)
    obtain ⟨j, rows⟩ := p
    obtain ⟨hj, hs⟩ := hp
    simp only at hj hs
    subst hs
    refine SWp.go pok (by kernel_rfl) ?_
    refine brP_split (fun h => ?_) (fun h => ?_)
    · have hlt : j < x.s.l.length := by simpa using h
      refine PIdx.map (get_at hlt) ?_
      refine ⟨hg0, ?_⟩
      refine ⟨⟨rfl, RL_map _, RL_one rfl, by simp [divT]; omega⟩, ?_⟩
      exact ⟨(j + 1, (divT g (x.s.l.take j)).map Tm.e ++ [[.int .i64 x.s.l[j].var, .int .i64 (IntKind.i64.wrap (x.s.l[j].c.tdiv g))]]), ⟨hlt, by rw [wrap_in (div_down (lin_at hx.2 hlt).2 hgp).1]; exact (divT_snoc g hlt).symm⟩, by show x.s.l.length - (j + 1) < x.s.l.length - j; omega, .inr ⟨[0, 1, 2, 3], ⟨rfl, rfl⟩, rfl, rfl, rfl, rfl, rfl, rfl, rfl, sint (wrap_nat j (by omega)), trivial⟩⟩
    · have hk : j = x.s.l.length := by simp at h; omega
      refine fin1 ?_
      rw [tight_r1 t0 t1 t2 t3 t4 t5, hg, hk, List.take_length, ← t4, ← hK]; rfl
  · have t4 : ¬ x.rel = 1 := by simpa using h4
    refine brP_false (by simpa using t4) ?_
    rw [hg]
    refine ⟨hg0, ?_⟩
    refine brP_split (fun h5 => ?_) (fun h5 => ?_)
    · exact fin1 (by rw [tight_r2n t0 t1 t2 t3 t4 (by rw [hg]; simpa using h5)]; rfl)
    have t5 : x.s.k.tmod (gcdL (x.s.l.map (·.c))) = 0 := by rw [hg]; simpa using h5
    refine ⟨hg0, ?_⟩
    have hK : IntKind.i64.wrap (x.s.k.tdiv g) = x.s.k.tdiv g := wrap_in (div_down hx.2.1 hgp).1
    refine SWp.tipBox 2 2 2 rfl rfl ?_
    refine SWp.loop (fun p : Nat × List (List D) => p.1 ≤ x.s.l.length ∧ p.2 = (divT g (x.s.l.take p.1)).map Tm.e)
      (fun p => ([(1, .ptr 0 0), (2, .ptr 1 0), (4, .ptr 2 0), (5, iv g), (82, .d (.sl (x.s.l.map Tm.e))), (83, iv (x.s.l.map Tm.e).length), (84, iv p.1)], [.box [.d (.int .i64 x.rel), .d (.int .i64 x.s.k), .d (.sl (x.s.l.map Tm.e))], .box [iv 0, iv 0, .fsl []], .box [iv x.rel, iv (IntKind.i64.wrap (x.s.k.tdiv g)), .gsl p.2 3], .tip 2 p.2.length]))
      (fun p => x.s.l.length - p.1) (0, []) ⟨Nat.zero_le _, by simp [divT]⟩ (Le.same ⟨rfl, rfl, rfl, rfl, rfl, rfl, rfl, trivial⟩) (fun p hp => ?_)
    obtain ⟨j, rows⟩ := p
    obtain ⟨hj, hs⟩ := hp
    simp only at hj hs
    subst hs
    refine SWp.go pok (by kernel_rfl) ?_
    refine brP_split (fun h => ?_) (fun h => ?_)
    · have hlt : j < x.s.l.length := by simpa using h
      refine PIdx.map (get_at hlt) ?_
      refine ⟨hg0, ?_⟩
      refine ⟨⟨rfl, RL_map _, RL_one rfl, by simp [divT]; omega⟩, ?_⟩
      exact ⟨(j + 1, (divT g (x.s.l.take j)).map Tm.e ++ [[.int .i64 x.s.l[j].var, .int .i64 (IntKind.i64.wrap (x.s.l[j].c.tdiv g))]]), ⟨hlt, by rw [wrap_in (div_down (lin_at hx.2 hlt).2 hgp).1]; exact (divT_snoc g hlt).symm⟩, by show x.s.l.length - (j + 1) < x.s.l.length - j; omega, .inr ⟨[0, 1, 2, 3], ⟨rfl, rfl⟩, rfl, rfl, rfl, rfl, rfl, rfl, rfl, sint (wrap_nat j (by omega)), trivial⟩⟩
    · have hk : j = x.s.l.length := by simp at h; omega
      refine fin1 ?_
      rw [tight_r2 t0 t1 t2 t3 t4 t5, hg, hk, List.take_length, hK]; rfl
end Go.Proofs.Ytlafnhpmhflnaaa.Q
