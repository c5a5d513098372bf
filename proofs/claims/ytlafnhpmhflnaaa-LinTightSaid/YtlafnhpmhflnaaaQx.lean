/- Packages num and vigilref10. No condition. -/
import Derived.Test.YtlafnhpmhflnaaaQu
set_option linter.unusedVariables false
set_option linter.unusedSectionVars false
set_option linter.unnecessarySimpa false
set_option linter.unusedSimpArgs false
set_option maxRecDepth 100000
namespace Go.Proofs.Ytlafnhpmhflnaaa.Q
open Go.RowKit
variable [Amb]
theorem wrap_w (x : Int) : IntKind.i64.wrap x = wrap64 x := by rw [IntKind.wrap_i64]; unfold wrap64; omega
abbrev uv (n : Int) : V := .d (.int .u64 n)
theorem numAdd_c (a b : Int) (ha : R64 a) (hb : R64 b) : PFun Try.prog 39 [iv a, iv b] [] (ib (addS a b)) [] := by
  refine fn_sem pok 19 0 Try.func39 (by kernel_rfl) rfl rfl rfl rfl ?_
  refine SWp.go pok (by kernel_rfl) ?_
  have hov := add_over ha hb
  refine brP_split (fun h => ?_) (fun h => ?_)
  · rw [wrap_w] at h
    exact fin1 (ib_no (hov.1 (by simpa using h))).symm
  · rw [wrap_w] at h
    have hr : R64 (a + b) := Classical.not_not.1 (fun hn => by have := hov.2 hn; simp at h; omega)
    refine fin1 ?_
    show V.tup [_, _] = _
    rw [show addS a b = told (a + b) from rfl, ib_yes hr, wrap_in hr]
theorem numSub_c (a b : Int) (ha : R64 a) (hb : R64 b) : PFun Try.prog 94 [iv a, iv b] [] (ib (subS a b)) [] := by
  refine fn_sem pok 19 0 Try.func94 (by kernel_rfl) rfl rfl rfl rfl ?_
  refine SWp.go pok (by kernel_rfl) ?_
  have hov := sub_over ha hb
  refine brP_split (fun h => ?_) (fun h => ?_)
  · rw [wrap_w] at h
    exact fin1 (ib_no (hov.1 (by simpa using h))).symm
  · rw [wrap_w] at h
    have hr : R64 (a - b) := Classical.not_not.1 (fun hn => by have := hov.2 hn; simp at h; omega)
    refine fin1 ?_
    show V.tup [_, _] = _
    rw [show subS a b = told (a - b) from rfl, ib_yes hr, wrap_in hr]
theorem numNeg_c (a : Int) (ha : R64 a) : PFun Try.prog 41 [iv a] [] (ib (negS a)) [] := by
  refine fn_sem pok 8 0 Try.func41 (by kernel_rfl) rfl rfl rfl rfl ?_
  refine SWp.go pok (by kernel_rfl) ?_
  refine brP_split (fun h => ?_) (fun h => ?_)
  · have : ¬ R64 (-a) := by unfold R64; simp at h; omega
    exact fin1 (ib_no this).symm
  · have hr : R64 (-a) := by unfold R64 at ha ⊢; simp at h; omega
    refine fin1 ?_
    rw [show negS a = told (-a) from rfl, ib_yes hr]
    show V.tup [.d (.int .i64 (IntKind.i64.wrap (0 - a))), _] = _
    rw [show (0 : Int) - a = -a by omega, wrap_in hr]
theorem numSize_c (a : Int) (ha : R64 a) : PFun Try.prog 62 [iv a] [] (uv a.natAbs) [] := by
  refine fn_sem pok 10 0 Try.func62 (by kernel_rfl) rfl rfl rfl rfl ?_
  refine SWp.go pok (by kernel_rfl) ?_
  refine brP_split (fun h => ?_) (fun h => ?_)
  · exact fin1 (dint (by have := size_neg ha (by simpa using h); rwa [show -IntKind.u64.wrap a = 0 - IntKind.u64.wrap a by omega] at this))
  · exact fin1 (dint (size_pos ha (by simpa using h)))
theorem sh32 : (2 ^ (min (Int.toNat 32) IntKind.u64.bits) : Int) = 4294967296 := by decide
theorem fd32 (x : Int) : x.fdiv 4294967296 = x / 4294967296 := Int.fdiv_eq_ediv_of_nonneg _ (by decide)
theorem mul64_c (a b : Int) (ha : U64 a) (hb : U64 b) : PFun Try.prog 61 [uv a, uv b] [] (.tup [uv (a * b / 18446744073709551616), uv (a * b % 18446744073709551616)]) [] := by
  refine fn_sem pok 51 0 Try.func61 (by kernel_rfl) rfl rfl rfl rfl ?_
  refine SWp.go pok (by kernel_rfl) ?_
  refine ⟨by decide, ⟨by decide, ⟨by decide, ⟨by decide, ⟨by decide, ?_⟩⟩⟩⟩⟩
  refine fin1 (tup2 (dint ?_) (dint (wrap_u _)))
  have e := mul_hi a b ha hb
  unfold U64 at ha hb
  rw [← e]
  show IntKind.wrap _ (IntKind.wrap _ (IntKind.wrap _ (Int.fdiv _ _ * Int.fdiv _ _) + Int.fdiv _ _) + Int.fdiv _ _) = _
  simp only [wrap_u, sh32, fd32]
  rw [low_b ha.1 (by omega), low_b hb.1 (by omega), low_b (z := _ % 18446744073709551616) (by omega) (by omega)]
theorem numMul_c (a b : Int) (ha : R64 a) (hb : R64 b) : PFun Try.prog 38 [iv a, iv b] [] (ib (mulS a b)) [] := by
  obtain ⟨m, hm, hm0, hy, hn⟩ : ∃ m : Int, (a.natAbs : Int) * (b.natAbs : Int) = m ∧ 0 ≤ m ∧ ((decide (a < 0) != decide (b < 0)) = true → a * b = -m) ∧ ((decide (a < 0) != decide (b < 0)) = false → a * b = m) := by
    obtain ⟨m, hm, _, hy, hn⟩ := mul_parts ha hb _ rfl
    exact ⟨m, hm, by omega, hy, hn⟩
  have k3 := mul64_c _ _ (abs_u ha).1 (abs_u hb).1
  rw [hm] at k3
  have e1 : IntKind.i64.wrap (IntKind.u64.wrap (-m)) = IntKind.i64.wrap (-m) := by rw [wrap_u, IntKind.wrap_i64, IntKind.wrap_i64]; omega
  have hno : ¬ R64 (a * b) → ib (mulS a b) = .tup [iv 0, .d (.bool false)] := fun h => ib_no h
  have hyes : R64 (a * b) → ib (mulS a b) = .tup [iv (a * b), .d (.bool true)] := fun h => ib_yes h
  refine fn_sem pok 44 0 Try.func38 (by kernel_rfl) rfl rfl rfl rfl ?_
  refine SWp.go pok (by kernel_rfl) ?_
  refine PFun.call (numSize_c a ha) ?_
  refine PFun.call (numSize_c b hb) ?_
  refine PFun.call k3 ?_
  have no : ¬ R64 (a * b) → ∀ H, (V.tup [iv 0, .d (.bool false)] = ib (mulS a b) ∧ ([] : List Ob) = H) = (True ∧ [] = H) := fun h H => by rw [hno h]; simp
  refine brP_split (fun ha' => ?_) (fun ha' => ?_)
  all_goals refine brP_split (fun hb' => ?_) (fun hb' => ?_)
  all_goals rw [ha', hb'] at hy hn
  · have e := hn rfl
    refine brP_split (fun h1 => ?_) (fun h1 => ?_)
    · exact fin1 (hno (by rw [e]; unfold R64; simp at h1; omega)).symm
    · refine brP_split (fun h2 => ?_) (fun h2 => ?_)
      · exact fin1 (hno (by rw [e]; unfold R64; simp at h1 h2; omega)).symm
      · refine brP_split (fun h3 => ?_) (fun h3 => ?_)
        · exact fin1 (hno (by rw [e]; unfold R64; simp at h1 h2 h3; omega)).symm
        · have hr : R64 m := by unfold R64; simp at h1 h2 h3; omega
          refine fin1 ?_
          rw [hyes (by rw [e]; exact hr), e]
          exact tup2 (dint (by rw [show m % 18446744073709551616 = m by unfold R64 at hr; omega]; exact wrap_in hr)) rfl
  · have e := hy rfl
    refine brP_split (fun h1 => ?_) (fun h1 => ?_)
    · exact fin1 (hno (by rw [e]; unfold R64; simp at h1; omega)).symm
    · refine brP_split (fun h2 => ?_) (fun h2 => ?_)
      · exact fin1 (hno (by rw [e]; unfold R64; simp at h1 h2; omega)).symm
      · have hr : R64 (-m) := by unfold R64; simp at h1 h2; omega
        refine brP_split (fun h3 => ?_) (fun h3 => ?_)
        all_goals
          refine fin1 ?_
          rw [hyes (by rw [e]; exact hr), e]
          exact tup2 (dint (by rw [show m % 18446744073709551616 = m by unfold R64 at hr; omega, show 0 - m = -m by omega, e1]; exact wrap_in hr)) rfl
  · have e := hy rfl
    refine brP_split (fun h1 => ?_) (fun h1 => ?_)
    · exact fin1 (hno (by rw [e]; unfold R64; simp at h1; omega)).symm
    · refine brP_split (fun h2 => ?_) (fun h2 => ?_)
      · exact fin1 (hno (by rw [e]; unfold R64; simp at h1 h2; omega)).symm
      · have hr : R64 (-m) := by unfold R64; simp at h1 h2; omega
        refine brP_split (fun h3 => ?_) (fun h3 => ?_)
        all_goals
          refine fin1 ?_
          rw [hyes (by rw [e]; exact hr), e]
          exact tup2 (dint (by rw [show m % 18446744073709551616 = m by unfold R64 at hr; omega, show 0 - m = -m by omega, e1]; exact wrap_in hr)) rfl
  · have e := hn rfl
    refine brP_split (fun h1 => ?_) (fun h1 => ?_)
    · exact fin1 (hno (by rw [e]; unfold R64; simp at h1; omega)).symm
    · refine brP_split (fun h2 => ?_) (fun h2 => ?_)
      · exact fin1 (hno (by rw [e]; unfold R64; simp at h1 h2; omega)).symm
      · refine brP_split (fun h3 => ?_) (fun h3 => ?_)
        · exact fin1 (hno (by rw [e]; unfold R64; simp at h1 h2 h3; omega)).symm
        · have hr : R64 m := by unfold R64; simp at h1 h2 h3; omega
          refine fin1 ?_
          rw [hyes (by rw [e]; exact hr), e]
          exact tup2 (dint (by rw [show m % 18446744073709551616 = m by unfold R64 at hr; omega]; exact wrap_in hr)) rfl
theorem numDiv_c (a b : Int) (ha : R64 a) : PFun Try.prog 42 [iv a, iv b] [] (iv (divS a b)) [] := by
  refine fn_sem pok 23 0 Try.func42 (by kernel_rfl) rfl rfl rfl rfl ?_
  refine SWp.go pok (by kernel_rfl) ?_
  refine brP_split (fun h => ?_) (fun h => ?_)
  · exact fin1 (dint (if_pos (by simpa using h)).symm)
  · have hb : 0 < b := by simpa using h
    have hd : divS a b = a / b := if_neg (by omega)
    obtain ⟨r1, r2, d1, d2, r3⟩ := div_down ha hb
    refine ⟨by omega, ?_⟩
    refine brP_split (fun h1 => ?_) (fun h1 => ?_)
    · refine brP_split (fun h2 => ?_) (fun h2 => ?_)
      · rw [wrap_in r1, wrap_in r2] at h2
        refine fin1 (dint ?_)
        rw [hd, d1 (by simpa using h1) (by simpa using h2), wrap_in r1, wrap_in]
        rw [← d1 (by simpa using h1) (by simpa using h2)]; exact r3
      · rw [wrap_in r1, wrap_in r2] at h2
        refine fin1 (dint ?_)
        rw [hd, d2 (.inr (by simpa using h2)), wrap_in r1]
    · refine fin1 (dint ?_)
      rw [hd, d2 (.inl (by simpa using h1)), wrap_in r1]
theorem refNeg_c (a : Int) (ha : R64 a) : PFun Try.prog 44 [iv a] [] (ib (negS a)) [] := by
  refine fn_sem pok 8 0 Try.func44 (by kernel_rfl) rfl rfl rfl rfl ?_
  refine SWp.go pok (by kernel_rfl) ?_
  refine brP_split (fun h => ?_) (fun h => ?_)
  · have : ¬ R64 (-a) := by unfold R64; simp at h; omega
    exact fin1 (ib_no this).symm
  · have hr : R64 (-a) := by unfold R64 at ha ⊢; simp at h; omega
    refine fin1 ?_
    rw [show negS a = told (-a) from rfl, ib_yes hr]
    show V.tup [.d (.int .i64 (IntKind.i64.wrap (0 - a))), _] = _
    rw [show (0 : Int) - a = -a by omega, wrap_in hr]
theorem refAdd_c (a b : Int) (ha : R64 a) (hb : R64 b) : PFun Try.prog 30 [iv a, iv b] [] (ib (addS a b)) [] := by
  have W1 : 0 < b → IntKind.i64.wrap (9223372036854775807 - b) = 9223372036854775807 - b := fun h => wrap_in (by unfold R64 at *; omega)
  have W2 : b < 0 → IntKind.i64.wrap (-9223372036854775808 - b) = -9223372036854775808 - b := fun h => wrap_in (by unfold R64 at *; omega)
  have no : ¬ R64 (a + b) → ib (addS a b) = .tup [iv 0, .d (.bool false)] := fun h => ib_no h
  have yes : R64 (a + b) → ib (addS a b) = .tup [iv (IntKind.i64.wrap (a + b)), .d (.bool true)] := fun h => (ib_yes h).trans (by rw [wrap_in h])
  refine fn_sem pok 27 0 Try.func30 (by kernel_rfl) rfl rfl rfl rfl ?_
  refine SWp.go pok (by kernel_rfl) ?_
  refine brP_split (fun h => ?_) (fun h => ?_)
  · have p : 0 < b := by simpa using h
    refine brP_split (fun h2 => ?_) (fun h2 => ?_)
    · rw [W1 p] at h2
      exact fin1 (no (by unfold R64 at *; simp at h2; omega)).symm
    · rw [W1 p] at h2
      refine brP_split (fun h3 => ?_) (fun h3 => ?_)
      · exfalso; simp at h3; omega
      · exact fin1 (yes (by unfold R64 at *; simp at h2; omega)).symm
  · have p : ¬ 0 < b := by simpa using h
    refine brP_split (fun h3 => ?_) (fun h3 => ?_)
    · have q : b < 0 := by simpa using h3
      refine brP_split (fun h2 => ?_) (fun h2 => ?_)
      · rw [W2 q] at h2
        exact fin1 (no (by unfold R64 at *; simp at h2; omega)).symm
      · rw [W2 q] at h2
        exact fin1 (yes (by unfold R64 at *; simp at h2; omega)).symm
    · exact fin1 (yes (by unfold R64 at *; simp at h3; omega)).symm
theorem refSize_c (a : Int) (ha : R64 a) : PFun Try.prog 51 [iv a] [] (uv a.natAbs) [] := by
  refine fn_sem pok 12 0 Try.func51 (by kernel_rfl) rfl rfl rfl rfl ?_
  refine SWp.go pok (by kernel_rfl) ?_
  refine brP_split (fun h => ?_) (fun h => ?_)
  · refine fin1 (dint ?_)
    show IntKind.wrap _ (IntKind.wrap _ (IntKind.wrap _ (0 - (IntKind.wrap _ _))) + 1) = _
    rw [wrap_u, wrap_u, IntKind.wrap_i64, IntKind.wrap_i64]; unfold R64 at ha; simp at h; omega
  · exact fin1 (dint (size_pos ha (by simpa using h)))
theorem refDiv_c (a b : Int) (ha : R64 a) : PFun Try.prog 45 [iv a, iv b] [] (iv (divS a b)) [] := by
  refine fn_sem pok 18 0 Try.func45 (by kernel_rfl) rfl rfl rfl rfl ?_
  refine SWp.go pok (by kernel_rfl) ?_
  refine brP_split (fun h => ?_) (fun h => ?_)
  · exact fin1 (dint (if_pos (by simpa using h)).symm)
  · have hb : 0 < b := by simpa using h
    have hd : divS a b = a / b := if_neg (by omega)
    obtain ⟨r1, r2, d1, d2, r3⟩ := div_down ha hb
    refine ⟨by omega, ⟨by omega, ?_⟩⟩
    refine brP_split (fun h1 => ?_) (fun h1 => ?_)
    · have hn := (tmod_neg (a := a) hb).1 (by simpa using h1)
      refine fin1 (dint ?_)
      rw [hd, d1 hn.1 hn.2, wrap_in r1, wrap_in]
      rw [← d1 hn.1 hn.2]; exact r3
    · refine fin1 (dint ?_)
      rw [hd, d2 (by have := tmod_neg (a := a) hb; simp at h1; omega), wrap_in r1]
set_option maxHeartbeats 2000000 in
theorem refMul_c (a b : Int) (ha : R64 a) (hb : R64 b) : PFun Try.prog 31 [iv a, iv b] [] (ib (mulS a b)) [] := by
  obtain ⟨m, hm, _, hy, hn⟩ := mul_parts ha hb _ rfl
  have no : ¬ R64 (a * b) → ib (mulS a b) = .tup [iv 0, .d (.bool false)] := fun h => ib_no h
  have yes : R64 (a * b) → ib (mulS a b) = .tup [iv (a * b), .d (.bool true)] := fun h => ib_yes h
  obtain ⟨uh, ul, vh, vl, p, p', q, r, e1, e2, e3, e4, e5, e6, e7, e8, b1, b2, b3, b4, b5, b6, c1, c2, c3⟩ := mul_split (u := (a.natAbs : Int)) (v := (b.natAbs : Int)) (by unfold R64 at ha; omega) (by unfold R64 at hb; omega)
  have hau : U64 (a.natAbs : Int) := (abs_u ha).1
  have hbu : U64 (b.natAbs : Int) := (abs_u hb).1
  unfold U64 at hau hbu
  have l1 : bits .and .u64 (a.natAbs : Int) 4294967295 = ul := (low_b hau.1 (by omega)).trans e2
  have l2 : bits .and .u64 (b.natAbs : Int) 4294967295 = vl := (low_b hbu.1 (by omega)).trans e4
  have l0 : (a.natAbs : Int).fdiv (2 ^ (min (Int.toNat 32) IntKind.u64.bits)) = uh := by rw [sh32, fd32]; exact e1
  have l0' : (b.natAbs : Int).fdiv (2 ^ (min (Int.toNat 32) IntKind.u64.bits)) = vh := by rw [sh32, fd32]; exact e3
  have lmid : IntKind.u64.wrap (IntKind.u64.wrap ((a.natAbs : Int).fdiv (2 ^ (min (Int.toNat 32) IntKind.u64.bits)) * bits .and .u64 (b.natAbs : Int) 4294967295) + IntKind.u64.wrap ((b.natAbs : Int).fdiv (2 ^ (min (Int.toNat 32) IntKind.u64.bits)) * bits .and .u64 (a.natAbs : Int) 4294967295)) = (p + p') % 18446744073709551616 := by
    rw [l0, l0', l1, l2, e5, e6]; simp only [wrap_u]; omega
  have lq : IntKind.u64.wrap (bits .and .u64 (a.natAbs : Int) 4294967295 * bits .and .u64 (b.natAbs : Int) 4294967295) = q := by rw [l1, l2, e7, wrap_u]; omega
  have ln : IntKind.u64.wrap (IntKind.u64.wrap (IntKind.u64.wrap (IntKind.u64.wrap ((a.natAbs : Int).fdiv (2 ^ (min (Int.toNat 32) IntKind.u64.bits)) * bits .and .u64 (b.natAbs : Int) 4294967295) + IntKind.u64.wrap ((b.natAbs : Int).fdiv (2 ^ (min (Int.toNat 32) IntKind.u64.bits)) * bits .and .u64 (a.natAbs : Int) 4294967295)) * 2 ^ (min (Int.toNat 32) IntKind.u64.bits)) + IntKind.u64.wrap (bits .and .u64 (a.natAbs : Int) 4294967295 * bits .and .u64 (b.natAbs : Int) 4294967295)) = IntKind.u64.wrap (IntKind.u64.wrap ((p + p') % 18446744073709551616 * 4294967296) + q) := by rw [lmid, lq, sh32]
  rw [e8] at hm
  refine fn_sem pok 68 0 Try.func31 (by kernel_rfl) rfl rfl rfl rfl ?_
  refine SWp.go pok (by kernel_rfl) ?_
  refine PFun.call (refSize_c a ha) ?_
  refine PFun.call (refSize_c b hb) ?_
  refine ⟨by decide, ⟨by decide, ?_⟩⟩
  refine brP_split (fun ha' => ?_) (fun ha' => ?_)
  all_goals refine brP_split (fun hb' => ?_) (fun hb' => ?_)
  all_goals rw [ha', hb'] at hy hn
  · have e := hn rfl
    refine brP_split (fun h1 => ?_) (fun h1 => ?_)
    rotate_left
    · rw [l0] at h1
      have g1 : uh = 0 := by simpa using h1
      have g2 := c1 g1
      refine brP_split (fun h3 => ?_) (fun h3 => ?_)
      · rw [lmid] at h3
        have h3' : 4294967296 ≤ (p + p') % 18446744073709551616 := by simpa using h3
        exact fin1 (no (by rw [e]; unfold R64; omega)).symm
      · rw [lmid] at h3
        have h3' : (p + p') % 18446744073709551616 < 4294967296 := by simpa using h3
        have hpp : (p + p') % 18446744073709551616 = p + p' := by omega
        rw [hpp] at h3'
        have hn' : IntKind.wrap .u64 (IntKind.wrap .u64 ((p + p') * 4294967296) + q) = (m : Int) % 18446744073709551616 := by rw [wrap_u, wrap_u]; omega
        refine ⟨by decide, ?_⟩
        refine brP_split (fun h4 => ?_) (fun h4 => ?_)
        · rw [ln, hpp, hn', lq] at h4
          exact fin1 (no (by rw [e]; unfold R64; simp at h4; omega)).symm
        · rw [ln, hpp, hn', lq] at h4
          have hmm : (m : Int) % 18446744073709551616 = m := by simp at h4; omega
          refine brP_split (fun h5 => ?_) (fun h5 => ?_)
          · rw [ln, hpp, hn', hmm] at h5
            exact fin1 (no (by rw [e]; unfold R64; simp at h5; omega)).symm
          · rw [ln, hpp, hn', hmm] at h5
            refine fin1 ?_
            have hr : R64 (a * b) := by rw [e]; unfold R64; simp at h5; omega
            rw [yes hr]
            refine tup2 (dint ?_) rfl
            show IntKind.wrap .i64 _ = _
            rw [ln, hpp, hn', hmm, e]
            rw [e] at hr
            exact wrap_in hr
    · rw [l0] at h1
      have g1 : ¬ uh = 0 := by simpa using h1
      refine brP_split (fun h2 => ?_) (fun h2 => ?_)
      · rw [l0'] at h2
        have g2 : ¬ vh = 0 := by simpa using h2
        have := c3 g1 g2
        exact fin1 (no (by rw [e]; unfold R64; omega)).symm
      · rw [l0'] at h2
        have g1 : vh = 0 := by simpa using h2
        have g2 := c2 g1
        refine brP_split (fun h3 => ?_) (fun h3 => ?_)
        · rw [lmid] at h3
          have h3' : 4294967296 ≤ (p + p') % 18446744073709551616 := by simpa using h3
          exact fin1 (no (by rw [e]; unfold R64; omega)).symm
        · rw [lmid] at h3
          have h3' : (p + p') % 18446744073709551616 < 4294967296 := by simpa using h3
          have hpp : (p + p') % 18446744073709551616 = p + p' := by omega
          rw [hpp] at h3'
          have hn' : IntKind.wrap .u64 (IntKind.wrap .u64 ((p + p') * 4294967296) + q) = (m : Int) % 18446744073709551616 := by rw [wrap_u, wrap_u]; omega
          refine ⟨by decide, ?_⟩
          refine brP_split (fun h4 => ?_) (fun h4 => ?_)
          · rw [ln, hpp, hn', lq] at h4
            exact fin1 (no (by rw [e]; unfold R64; simp at h4; omega)).symm
          · rw [ln, hpp, hn', lq] at h4
            have hmm : (m : Int) % 18446744073709551616 = m := by simp at h4; omega
            refine brP_split (fun h5 => ?_) (fun h5 => ?_)
            · rw [ln, hpp, hn', hmm] at h5
              exact fin1 (no (by rw [e]; unfold R64; simp at h5; omega)).symm
            · rw [ln, hpp, hn', hmm] at h5
              refine fin1 ?_
              have hr : R64 (a * b) := by rw [e]; unfold R64; simp at h5; omega
              rw [yes hr]
              refine tup2 (dint ?_) rfl
              show IntKind.wrap .i64 _ = _
              rw [ln, hpp, hn', hmm, e]
              rw [e] at hr
              exact wrap_in hr
  · have e := hy rfl
    refine brP_split (fun h1 => ?_) (fun h1 => ?_)
    rotate_left
    · rw [l0] at h1
      have g1 : uh = 0 := by simpa using h1
      have g2 := c1 g1
      refine brP_split (fun h3 => ?_) (fun h3 => ?_)
      · rw [lmid] at h3
        have h3' : 4294967296 ≤ (p + p') % 18446744073709551616 := by simpa using h3
        exact fin1 (no (by rw [e]; unfold R64; omega)).symm
      · rw [lmid] at h3
        have h3' : (p + p') % 18446744073709551616 < 4294967296 := by simpa using h3
        have hpp : (p + p') % 18446744073709551616 = p + p' := by omega
        rw [hpp] at h3'
        have hn' : IntKind.wrap .u64 (IntKind.wrap .u64 ((p + p') * 4294967296) + q) = (m : Int) % 18446744073709551616 := by rw [wrap_u, wrap_u]; omega
        refine ⟨by decide, ?_⟩
        refine brP_split (fun h4 => ?_) (fun h4 => ?_)
        · rw [ln, hpp, hn', lq] at h4
          exact fin1 (no (by rw [e]; unfold R64; simp at h4; omega)).symm
        · rw [ln, hpp, hn', lq] at h4
          have hmm : (m : Int) % 18446744073709551616 = m := by simp at h4; omega
          refine brP_split (fun h5 => ?_) (fun h5 => ?_)
          · rw [ln, hpp, hn', hmm] at h5
            exact fin1 (no (by rw [e]; unfold R64; simp at h5; omega)).symm
          · rw [ln, hpp, hn', hmm] at h5
            refine fin1 ?_
            have hr : R64 (a * b) := by rw [e]; unfold R64; simp at h5; omega
            rw [yes hr]
            refine tup2 (dint ?_) rfl
            show IntKind.wrap .i64 (IntKind.wrap .u64 (0 - _)) = _
            rw [ln, hpp, hn', hmm, e]
            rw [e] at hr
            rw [wrap_u, IntKind.wrap_i64]; unfold R64 at hr; omega
    · rw [l0] at h1
      have g1 : ¬ uh = 0 := by simpa using h1
      refine brP_split (fun h2 => ?_) (fun h2 => ?_)
      · rw [l0'] at h2
        have g2 : ¬ vh = 0 := by simpa using h2
        have := c3 g1 g2
        exact fin1 (no (by rw [e]; unfold R64; omega)).symm
      · rw [l0'] at h2
        have g1 : vh = 0 := by simpa using h2
        have g2 := c2 g1
        refine brP_split (fun h3 => ?_) (fun h3 => ?_)
        · rw [lmid] at h3
          have h3' : 4294967296 ≤ (p + p') % 18446744073709551616 := by simpa using h3
          exact fin1 (no (by rw [e]; unfold R64; omega)).symm
        · rw [lmid] at h3
          have h3' : (p + p') % 18446744073709551616 < 4294967296 := by simpa using h3
          have hpp : (p + p') % 18446744073709551616 = p + p' := by omega
          rw [hpp] at h3'
          have hn' : IntKind.wrap .u64 (IntKind.wrap .u64 ((p + p') * 4294967296) + q) = (m : Int) % 18446744073709551616 := by rw [wrap_u, wrap_u]; omega
          refine ⟨by decide, ?_⟩
          refine brP_split (fun h4 => ?_) (fun h4 => ?_)
          · rw [ln, hpp, hn', lq] at h4
            exact fin1 (no (by rw [e]; unfold R64; simp at h4; omega)).symm
          · rw [ln, hpp, hn', lq] at h4
            have hmm : (m : Int) % 18446744073709551616 = m := by simp at h4; omega
            refine brP_split (fun h5 => ?_) (fun h5 => ?_)
            · rw [ln, hpp, hn', hmm] at h5
              exact fin1 (no (by rw [e]; unfold R64; simp at h5; omega)).symm
            · rw [ln, hpp, hn', hmm] at h5
              refine fin1 ?_
              have hr : R64 (a * b) := by rw [e]; unfold R64; simp at h5; omega
              rw [yes hr]
              refine tup2 (dint ?_) rfl
              show IntKind.wrap .i64 (IntKind.wrap .u64 (0 - _)) = _
              rw [ln, hpp, hn', hmm, e]
              rw [e] at hr
              rw [wrap_u, IntKind.wrap_i64]; unfold R64 at hr; omega
  · have e := hy rfl
    refine brP_split (fun h1 => ?_) (fun h1 => ?_)
    rotate_left
    · rw [l0] at h1
      have g1 : uh = 0 := by simpa using h1
      have g2 := c1 g1
      refine brP_split (fun h3 => ?_) (fun h3 => ?_)
      · rw [lmid] at h3
        have h3' : 4294967296 ≤ (p + p') % 18446744073709551616 := by simpa using h3
        exact fin1 (no (by rw [e]; unfold R64; omega)).symm
      · rw [lmid] at h3
        have h3' : (p + p') % 18446744073709551616 < 4294967296 := by simpa using h3
        have hpp : (p + p') % 18446744073709551616 = p + p' := by omega
        rw [hpp] at h3'
        have hn' : IntKind.wrap .u64 (IntKind.wrap .u64 ((p + p') * 4294967296) + q) = (m : Int) % 18446744073709551616 := by rw [wrap_u, wrap_u]; omega
        refine ⟨by decide, ?_⟩
        refine brP_split (fun h4 => ?_) (fun h4 => ?_)
        · rw [ln, hpp, hn', lq] at h4
          exact fin1 (no (by rw [e]; unfold R64; simp at h4; omega)).symm
        · rw [ln, hpp, hn', lq] at h4
          have hmm : (m : Int) % 18446744073709551616 = m := by simp at h4; omega
          refine brP_split (fun h5 => ?_) (fun h5 => ?_)
          · rw [ln, hpp, hn', hmm] at h5
            exact fin1 (no (by rw [e]; unfold R64; simp at h5; omega)).symm
          · rw [ln, hpp, hn', hmm] at h5
            refine fin1 ?_
            have hr : R64 (a * b) := by rw [e]; unfold R64; simp at h5; omega
            rw [yes hr]
            refine tup2 (dint ?_) rfl
            show IntKind.wrap .i64 (IntKind.wrap .u64 (0 - _)) = _
            rw [ln, hpp, hn', hmm, e]
            rw [e] at hr
            rw [wrap_u, IntKind.wrap_i64]; unfold R64 at hr; omega
    · rw [l0] at h1
      have g1 : ¬ uh = 0 := by simpa using h1
      refine brP_split (fun h2 => ?_) (fun h2 => ?_)
      · rw [l0'] at h2
        have g2 : ¬ vh = 0 := by simpa using h2
        have := c3 g1 g2
        exact fin1 (no (by rw [e]; unfold R64; omega)).symm
      · rw [l0'] at h2
        have g1 : vh = 0 := by simpa using h2
        have g2 := c2 g1
        refine brP_split (fun h3 => ?_) (fun h3 => ?_)
        · rw [lmid] at h3
          have h3' : 4294967296 ≤ (p + p') % 18446744073709551616 := by simpa using h3
          exact fin1 (no (by rw [e]; unfold R64; omega)).symm
        · rw [lmid] at h3
          have h3' : (p + p') % 18446744073709551616 < 4294967296 := by simpa using h3
          have hpp : (p + p') % 18446744073709551616 = p + p' := by omega
          rw [hpp] at h3'
          have hn' : IntKind.wrap .u64 (IntKind.wrap .u64 ((p + p') * 4294967296) + q) = (m : Int) % 18446744073709551616 := by rw [wrap_u, wrap_u]; omega
          refine ⟨by decide, ?_⟩
          refine brP_split (fun h4 => ?_) (fun h4 => ?_)
          · rw [ln, hpp, hn', lq] at h4
            exact fin1 (no (by rw [e]; unfold R64; simp at h4; omega)).symm
          · rw [ln, hpp, hn', lq] at h4
            have hmm : (m : Int) % 18446744073709551616 = m := by simp at h4; omega
            refine brP_split (fun h5 => ?_) (fun h5 => ?_)
            · rw [ln, hpp, hn', hmm] at h5
              exact fin1 (no (by rw [e]; unfold R64; simp at h5; omega)).symm
            · rw [ln, hpp, hn', hmm] at h5
              refine fin1 ?_
              have hr : R64 (a * b) := by rw [e]; unfold R64; simp at h5; omega
              rw [yes hr]
              refine tup2 (dint ?_) rfl
              show IntKind.wrap .i64 (IntKind.wrap .u64 (0 - _)) = _
              rw [ln, hpp, hn', hmm, e]
              rw [e] at hr
              rw [wrap_u, IntKind.wrap_i64]; unfold R64 at hr; omega
  · have e := hn rfl
    refine brP_split (fun h1 => ?_) (fun h1 => ?_)
    rotate_left
    · rw [l0] at h1
      have g1 : uh = 0 := by simpa using h1
      have g2 := c1 g1
      refine brP_split (fun h3 => ?_) (fun h3 => ?_)
      · rw [lmid] at h3
        have h3' : 4294967296 ≤ (p + p') % 18446744073709551616 := by simpa using h3
        exact fin1 (no (by rw [e]; unfold R64; omega)).symm
      · rw [lmid] at h3
        have h3' : (p + p') % 18446744073709551616 < 4294967296 := by simpa using h3
        have hpp : (p + p') % 18446744073709551616 = p + p' := by omega
        rw [hpp] at h3'
        have hn' : IntKind.wrap .u64 (IntKind.wrap .u64 ((p + p') * 4294967296) + q) = (m : Int) % 18446744073709551616 := by rw [wrap_u, wrap_u]; omega
        refine ⟨by decide, ?_⟩
        refine brP_split (fun h4 => ?_) (fun h4 => ?_)
        · rw [ln, hpp, hn', lq] at h4
          exact fin1 (no (by rw [e]; unfold R64; simp at h4; omega)).symm
        · rw [ln, hpp, hn', lq] at h4
          have hmm : (m : Int) % 18446744073709551616 = m := by simp at h4; omega
          refine brP_split (fun h5 => ?_) (fun h5 => ?_)
          · rw [ln, hpp, hn', hmm] at h5
            exact fin1 (no (by rw [e]; unfold R64; simp at h5; omega)).symm
          · rw [ln, hpp, hn', hmm] at h5
            refine fin1 ?_
            have hr : R64 (a * b) := by rw [e]; unfold R64; simp at h5; omega
            rw [yes hr]
            refine tup2 (dint ?_) rfl
            show IntKind.wrap .i64 _ = _
            rw [ln, hpp, hn', hmm, e]
            rw [e] at hr
            exact wrap_in hr
    · rw [l0] at h1
      have g1 : ¬ uh = 0 := by simpa using h1
      refine brP_split (fun h2 => ?_) (fun h2 => ?_)
      · rw [l0'] at h2
        have g2 : ¬ vh = 0 := by simpa using h2
        have := c3 g1 g2
        exact fin1 (no (by rw [e]; unfold R64; omega)).symm
      · rw [l0'] at h2
        have g1 : vh = 0 := by simpa using h2
        have g2 := c2 g1
        refine brP_split (fun h3 => ?_) (fun h3 => ?_)
        · rw [lmid] at h3
          have h3' : 4294967296 ≤ (p + p') % 18446744073709551616 := by simpa using h3
          exact fin1 (no (by rw [e]; unfold R64; omega)).symm
        · rw [lmid] at h3
          have h3' : (p + p') % 18446744073709551616 < 4294967296 := by simpa using h3
          have hpp : (p + p') % 18446744073709551616 = p + p' := by omega
          rw [hpp] at h3'
          have hn' : IntKind.wrap .u64 (IntKind.wrap .u64 ((p + p') * 4294967296) + q) = (m : Int) % 18446744073709551616 := by rw [wrap_u, wrap_u]; omega
          refine ⟨by decide, ?_⟩
          refine brP_split (fun h4 => ?_) (fun h4 => ?_)
          · rw [ln, hpp, hn', lq] at h4
            exact fin1 (no (by rw [e]; unfold R64; simp at h4; omega)).symm
          · rw [ln, hpp, hn', lq] at h4
            have hmm : (m : Int) % 18446744073709551616 = m := by simp at h4; omega
            refine brP_split (fun h5 => ?_) (fun h5 => ?_)
            · rw [ln, hpp, hn', hmm] at h5
              exact fin1 (no (by rw [e]; unfold R64; simp at h5; omega)).symm
            · rw [ln, hpp, hn', hmm] at h5
              refine fin1 ?_
              have hr : R64 (a * b) := by rw [e]; unfold R64; simp at h5; omega
              rw [yes hr]
              refine tup2 (dint ?_) rfl
              show IntKind.wrap .i64 _ = _
              rw [ln, hpp, hn', hmm, e]
              rw [e] at hr
              exact wrap_in hr
theorem gcd_c (a b : Nat) (ha : R64 a) (hb : R64 b) : PFun Try.prog 80 [iv a, iv b] [] (iv (Nat.gcd a b : Nat)) [] := by
  refine fn_sem pok 12 0 Try.func80 (by kernel_rfl) rfl rfl rfl rfl ?_
  refine SWp.go pok (by kernel_rfl) ?_
  refine SWp.scope 0 rfl (fun x : Nat × Nat => Nat.gcd x.1 x.2 = Nat.gcd a b ∧ R64 x.1 ∧ R64 x.2) (fun x => ([(0, iv x.1), (1, iv x.2)], [])) (fun x => x.2) ?_ (fun x hx => ?_)
  · refine SWp.go pok (by kernel_rfl) ?_
    refine brP_split (fun h => ?_) (fun h => ?_)
    · have : b = 0 := by simpa using h
      subst this
      exact fin1 (dint (by rw [Nat.gcd_zero_right]))
    · have h0 : b ≠ 0 := by simpa using h
      refine ⟨by omega, ?_⟩
      exact ⟨(b, a % b), ⟨by show Nat.gcd b (a % b) = _; rw [Nat.gcd_comm b, ← Nat.gcd_rec, Nat.gcd_comm], hb, by unfold R64 at *; have := Nat.mod_lt a (Nat.pos_of_ne_zero h0); show _ ≤ ((a % b : Nat) : Int) ∧ ((a % b : Nat) : Int) ≤ _; omega⟩, Le.same ⟨rfl, rfl, trivial⟩⟩
  · obtain ⟨p, q⟩ := x
    obtain ⟨hg, hp, hq⟩ := hx
    refine SWp.go pok (by kernel_rfl) ?_
    refine brP_split (fun h => ?_) (fun h => ?_)
    · have : q = 0 := by simpa using h
      subst this
      exact fin1 (dint (by rw [← hg, Nat.gcd_zero_right]))
    · have h0 : q ≠ 0 := by simpa using h
      refine ⟨by omega, ?_⟩
      exact ⟨(q, p % q), ⟨by show Nat.gcd q (p % q) = _; rw [← hg, Nat.gcd_comm q, ← Nat.gcd_rec, Nat.gcd_comm], hq, by unfold R64 at *; have := Nat.mod_lt p (Nat.pos_of_ne_zero h0); show _ ≤ ((p % q : Nat) : Int) ∧ ((p % q : Nat) : Int) ≤ _; omega⟩, Nat.mod_lt p (Nat.pos_of_ne_zero h0), Le.same ⟨rfl, rfl, trivial⟩⟩
end Go.Proofs.Ytlafnhpmhflnaaa.Q
