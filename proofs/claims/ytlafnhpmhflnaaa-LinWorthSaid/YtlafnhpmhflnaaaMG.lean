/- The laws of tight sums: plain laws, and that the functions say true. No condition. -/
import Derived.Test.YtlafnhpmhflnaaaMC
import Derived.Test.YtlafnhpmhflnaaaMD
import Derived.Test.YtlafnhpmhflnaaaMF
set_option linter.unusedVariables false
set_option linter.unusedSectionVars false
set_option linter.unnecessarySimpa false
set_option linter.unusedSimpArgs false
namespace Go.Proofs.Ytlafnhpmhflnaaa.Q
open Go.RowKit
variable [Amb]
def wT (vals : List Int) (l : List Tm) : Int := (l.map fun t => t.c * vals.getD t.var.toNat 0).sum
theorem valF_sum (vals : List Int) : ∀ (l : List Tm) (n : Int), (valF vals n l).2 = true → (valF vals n l).1 = n + wT vals l
  | [], n, _ => by simp [valF, wT]
  | t :: ts, n, h => by
    unfold valF at h ⊢
    split
    · rename_i h1; rw [if_pos h1] at h; cases h
    · rename_i h1
      rw [if_neg h1] at h
      split
      · rename_i h2
        rw [if_pos h2] at h
        split
        · rename_i h3
          rw [if_pos h3] at h
          rw [valF_sum vals ts _ h]
          have e1 := (told_true h2).2
          have e2 := (told_true h3).2
          unfold addS at e2 ⊢
          rw [e2]
          unfold mulS at e1 ⊢
          rw [e1]
          simp only [wT, List.map_cons, List.sum_cons]
          omega
        · rename_i h3; rw [if_neg h3] at h; cases h
      · rename_i h2; rw [if_neg h2] at h; cases h
theorem valueS_sum {a : Ln} {vals : List Int} (h : (valueS a vals).2 = true) : isB a.l = true ∧ (valueS a vals).1 = a.k + wT vals a.l := by
  unfold valueS at h ⊢
  by_cases hb : isB a.l = true
  · rw [if_pos hb] at h ⊢; exact ⟨hb, valF_sum vals _ _ h⟩
  · rw [if_neg hb] at h; cases h
theorem gcd_fold_dvd : ∀ (l : List Int) (g d : Nat), d ∣ l.foldl (fun g n => Nat.gcd g n.natAbs) g ↔ d ∣ g ∧ ∀ n ∈ l, d ∣ n.natAbs
  | [], g, d => by simp
  | n :: l, g, d => by
    rw [List.foldl_cons, gcd_fold_dvd l, Nat.dvd_gcd_iff]
    simp only [List.mem_cons, forall_eq_or_imp]
    exact ⟨fun ⟨⟨a, b⟩, c⟩ => ⟨a, b, c⟩, fun ⟨a, b, c⟩ => ⟨⟨a, b⟩, c⟩⟩
theorem dvd_gcdF (l : List Int) (d : Nat) : d ∣ gcdF l ↔ ∀ n ∈ l, d ∣ n.natAbs := by
  unfold gcdF; rw [gcd_fold_dvd]; simp
theorem gcdF_dvd {l : List Int} {n : Int} (h : n ∈ l) : ((gcdF l : Nat) : Int) ∣ n := Int.ofNat_dvd_left.2 ((dvd_gcdF l (gcdF l)).1 (Nat.dvd_refl _) n h)
theorem gcdF_div {l : List Int} (h : gcdF l ≠ 0) : gcdF (l.map fun n => n.tdiv (gcdF l : Nat)) = 1 := by
  have hg := Nat.pos_of_ne_zero h
  have key : gcdF l * gcdF (l.map fun n => n.tdiv (gcdF l : Nat)) ∣ gcdF l := by
    rw [dvd_gcdF]
    intro n hn
    have h1 := (dvd_gcdF _ _).1 (Nat.dvd_refl (gcdF (l.map fun n => n.tdiv (gcdF l : Nat)))) (n.tdiv (gcdF l : Nat)) (List.mem_map.2 ⟨n, hn, rfl⟩)
    have h2 := Int.tdiv_mul_cancel (gcdF_dvd hn)
    have h3 : n.natAbs = gcdF l * (n.tdiv (gcdF l : Nat)).natAbs := by
      have := congrArg Int.natAbs h2
      rw [Int.natAbs_mul] at this
      simp only [Int.natAbs_natCast] at this
      rw [Nat.mul_comm]; exact this.symm
    rw [h3]
    exact Nat.mul_dvd_mul (Nat.dvd_refl _) h1
  have h4 := Nat.le_of_dvd hg key
  have h5 : gcdF (l.map fun n => n.tdiv (gcdF l : Nat)) ≠ 0 := by
    intro e
    rw [e, Nat.mul_zero] at key
    exact h (Nat.eq_zero_of_zero_dvd key)
  rcases Nat.lt_or_ge 1 (gcdF (l.map fun n => n.tdiv (gcdF l : Nat))) with h6 | h6
  · have := Nat.mul_le_mul_left (gcdF l) h6; omega
  · omega
theorem wT_div (vals : List Int) (g : Int) : ∀ (l : List Tm), (∀ t ∈ l, g ∣ t.c) → wT vals l = g * wT vals (divT g l)
  | [], _ => by simp [wT, divT]
  | t :: ts, h => by
    have ih := wT_div vals g ts fun u hu => h u (List.mem_cons_of_mem _ hu)
    have h1 := Int.mul_tdiv_cancel' (h t List.mem_cons_self)
    simp only [wT, divT, List.map_cons, List.sum_cons] at ih ⊢
    rw [ih, Int.mul_add]
    congr 1
    rw [← Int.mul_assoc, h1]
theorem okFrom_div {g : Int} (hg : g ≠ 0) : ∀ (l : List Tm) (last : Int), (∀ t ∈ l, g ∣ t.c) → okFrom last l = true → okFrom last (divT g l) = true
  | [], _, _, _ => rfl
  | t :: ts, last, h, k => by
    unfold okFrom at k
    split at k
    · cases k
    · rename_i hc
      have h1 := Int.mul_tdiv_cancel' (h t List.mem_cons_self)
      have h2 : t.c.tdiv g ≠ 0 := fun e => by rw [e, Int.mul_zero] at h1; exact hc (.inr h1.symm)
      show okFrom last (⟨t.var, t.c.tdiv g⟩ :: divT g ts) = true
      unfold okFrom
      rw [if_neg (fun h3 => h3.elim (fun h3 => hc (.inl h3)) h2)]
      exact okFrom_div hg ts t.var (fun u hu => h u (List.mem_cons_of_mem _ hu)) k
theorem isB_div {g : Int} (hg : g ≠ 0) {l : List Tm} (h : ∀ t ∈ l, g ∣ t.c) (k : isB l = true) : isB (divT g l) = true := by
  unfold isB at k ⊢
  simp only [Bool.and_eq_true] at k ⊢
  exact ⟨by simpa [divT] using k.1, okFrom_div hg l _ h k.2⟩
theorem sameT_refl : ∀ l : List Tm, sameT l l = true
  | [] => rfl
  | t :: ts => by simp [sameT, tmEq, sameT_refl ts]
theorem sameS_refl (a : Ln) : sameS a a = true := by simp [sameS, sameT_refl]
theorem divT_one (l : List Tm) : divT 1 l = l := by simp [divT]
/-- A demand's first parts. -/
theorem tight_cases {x : Cn} (h : (tightS x).2 = true) : (1 ≤ x.rel ∧ x.rel ≤ 3) ∧ isB x.s.l = true ∧ ((x.s.l.length = 0 ∧ tightS x = (x, true)) ∨
    (x.s.l.length ≠ 0 ∧ gcdL (x.s.l.map (·.c)) ≠ 0 ∧
      ((x.rel = 1 ∧ (negS x.s.k).2 = true ∧ tightS x = (⟨1, ⟨-(divS (negS x.s.k).1 (gcdL (x.s.l.map (·.c)))), divT (gcdL (x.s.l.map (·.c))) x.s.l⟩⟩, true)) ∨
       (x.rel ≠ 1 ∧ x.s.k.tmod (gcdL (x.s.l.map (·.c))) = 0 ∧ tightS x = (⟨x.rel, ⟨x.s.k.tdiv (gcdL (x.s.l.map (·.c))), divT (gcdL (x.s.l.map (·.c))) x.s.l⟩⟩, true)) ∨
       (x.rel ≠ 1 ∧ x.s.k.tmod (gcdL (x.s.l.map (·.c))) ≠ 0 ∧ tightS x = (⟨x.rel, ⟨1, []⟩⟩, true))))) := by
  unfold tightS at h ⊢
  split at h
  · cases h
  rename_i hr
  split at h
  · rename_i hb
    rw [if_neg hr, if_pos hb]
    refine ⟨by omega, hb, ?_⟩
    split at h
    · rename_i h0; rw [if_pos h0]; exact .inl ⟨h0, rfl⟩
    rename_i h0
    rw [if_neg h0]
    refine .inr ⟨h0, ?_⟩
    dsimp only at h ⊢
    split at h
    · cases h
    rename_i hg
    rw [if_neg hg]
    refine ⟨hg, ?_⟩
    split at h
    · rename_i h1
      rw [if_pos h1]
      split at h
      · rename_i h2; rw [if_pos h2]; exact .inl ⟨h1, h2, rfl⟩
      · cases h
    rename_i h1
    rw [if_neg h1]
    split at h
    · rename_i h2; rw [if_pos h2]; exact .inr (.inl ⟨h1, h2, rfl⟩)
    · rename_i h2; rw [if_neg h2]; exact .inr (.inr ⟨h1, h2, rfl⟩)
  · cases h
theorem holds_of {c : Cn} {vals : List Int} {n : Int} (h : (valueS c.s vals).2 = true) (e : (valueS c.s vals).1 = n) : holdsS c vals = if c.rel = 1 then decide (n ≤ 0) else if c.rel = 2 then n == 0 else if c.rel = 3 then n != 0 else false := by
  unfold holdsS; rw [h, e]; rfl
theorem tight_law (x : Cn) (hx : x.ok) (vals : List Int) (h : (tightS x).2 = true) (hv : (valueS x.s vals).2 = true) (hd : (valueS (tightS x).1.s vals).2 = true) :
    holdsS x vals = holdsS (tightS x).1 vals ∧ (tightS (tightS x).1).2 = true ∧ sameS (tightS (tightS x).1).1.s (tightS x).1.s = true := by
  obtain ⟨hr, hb, hc⟩ := tight_cases h
  rcases hc with ⟨h0, e⟩ | ⟨h0, hg, hc⟩
  · rw [e] at hd ⊢
    exact ⟨rfl, h, by rw [e]; exact sameS_refl _⟩
  have hall : (x.s.l.map (·.c)).all notMin = true := by
    by_cases q : (x.s.l.map (·.c)).all notMin = true
    · exact q
    · exfalso; apply hg; unfold gcdL; exact if_neg q
  have hgl := gcdL_yes hall
  obtain ⟨g, hgn⟩ : ∃ g, gcdF (x.s.l.map (·.c)) = g := ⟨_, rfl⟩
  rw [hgn] at hgl
  have hg0 : g ≠ 0 := fun e => hg (by rw [hgl, e]; rfl)
  have hgp : (0 : Int) < (g : Int) := by omega
  have hdv : ∀ t ∈ x.s.l, (g : Int) ∣ t.c := fun t ht => by rw [← hgn]; exact gcdF_dvd (List.mem_map.2 ⟨t, ht, rfl⟩)
  rw [hgl] at hc
  have vx := (valueS_sum hv).2
  rw [wT_div vals g x.s.l hdv] at vx
  -- the terms, divided, once more
  have hb2 : isB (divT g x.s.l) = true := isB_div (by omega) hdv hb
  have hcs : (divT g x.s.l).map (·.c) = (x.s.l.map (·.c)).map fun n => n.tdiv (g : Int) := by simp [divT]
  have h1 : gcdF ((divT g x.s.l).map (·.c)) = 1 := by
    rw [hcs, ← hgn]; exact gcdF_div (by rw [hgn]; exact hg0)
  have hall2 : ((divT g x.s.l).map (·.c)).all notMin = true := by
    rw [hcs, List.all_map, List.all_eq_true]
    intro n hn
    have hn2 := List.all_eq_true.1 hall n hn
    have hr : R64 n := by
      obtain ⟨t, ht, rfl⟩ := List.mem_map.1 hn
      exact (hx.2.2 t ht).2
    have hd := Int.tdiv_mul_cancel (show (g : Int) ∣ n by rw [← hgn]; exact gcdF_dvd hn)
    have := div_down hr hgp
    simp only [Function.comp, notMin, decide_eq_true_eq] at hn2 ⊢
    intro e
    have e2 := this.2.1
    rw [e] at hd
    have hne : n ≠ -9223372036854775808 := hn2
    unfold R64 at hr
    have hg1 : (1 : Int) ≤ g := by omega
    have : -9223372036854775808 * (g : Int) ≤ -9223372036854775808 * 1 := Int.mul_le_mul_of_nonpos_left (by omega) hg1
    omega
  have hgl2 : gcdL ((divT g x.s.l).map (·.c)) = 1 := by rw [gcdL_yes hall2, h1]; rfl
  have hlen2 : ¬ (divT g x.s.l).length = 0 := by simpa [divT] using h0
  rcases hc with ⟨hr1, hn, e⟩ | ⟨hr1, hm, e⟩ | ⟨hr1, hm, e⟩
  · rw [e] at hd ⊢
    have vd := (valueS_sum hd).2
    have hk := told_true hn
    have ek : (negS x.s.k).1 = -x.s.k := hk.2
    have dd := div_down hk.1 hgp
    have es : divS (negS x.s.k).1 g = (-x.s.k) / g := by unfold divS; rw [if_neg (by omega), ek]
    simp only [es] at hd vd ⊢
    refine ⟨?_, ?_⟩
    · rw [holds_of hv vx, holds_of (c := ⟨1, ⟨-(-x.s.k / (g : Int)), divT g x.s.l⟩⟩) hd vd, if_pos hr1, if_pos rfl]
      simp only [decide_eq_decide]
      have := Int.le_ediv_iff_mul_le (a := wT vals (divT g x.s.l)) (b := -x.s.k) hgp
      rw [Int.mul_comm] at this
      omega
    · have hk2 : R64 (- -(-x.s.k / (g : Int))) := by
        have e3 : - -(-x.s.k / (g : Int)) = -x.s.k / (g : Int) := by omega
        rw [e3]
        exact dd.2.2.2.2
      have hn2 : negS (-(-x.s.k / (g : Int))) = (- -(-x.s.k / (g : Int)), true) := told_yes hk2
      have et : tightS ⟨1, ⟨-(-x.s.k / (g : Int)), divT g x.s.l⟩⟩ = (⟨1, ⟨-(-x.s.k / (g : Int)), divT g x.s.l⟩⟩, true) := by
        unfold tightS
        simp only [hb2, if_true, hlen2, if_false, hgl2, hn2, divT_one]
        rw [if_neg (by omega), if_neg (by decide)]
        unfold divS
        rw [if_neg (by decide)]
        simp
      rw [et]
      exact ⟨rfl, sameS_refl _⟩
  · rw [e] at hd ⊢
    have vd := (valueS_sum hd).2
    have hk := Int.mul_tdiv_cancel' (Int.dvd_of_tmod_eq_zero hm)
    refine ⟨?_, ?_⟩
    · rw [holds_of hv vx, holds_of (c := ⟨x.rel, ⟨x.s.k.tdiv g, divT g x.s.l⟩⟩) hd vd, if_neg hr1]
      show _ = if x.rel = 1 then _ else _
      rw [if_neg hr1]
      have key : x.s.k + (g : Int) * wT vals (divT g x.s.l) = g * (x.s.k.tdiv g + wT vals (divT g x.s.l)) := by rw [Int.mul_add, hk]
      have k2 : (x.s.k + (g : Int) * wT vals (divT g x.s.l) = 0) ↔ (x.s.k.tdiv g + wT vals (divT g x.s.l) = 0) := by
        rw [key, Int.mul_eq_zero]
        constructor
        · rintro (h | h)
          · omega
          · exact h
        · exact fun h => .inr h
      have k3 : (x.s.k + (g : Int) * wT vals (divT g x.s.l) == 0) = (x.s.k.tdiv g + wT vals (divT g x.s.l) == 0) := by
        rw [Bool.eq_iff_iff]; simpa using k2
      show (if x.rel = 2 then _ else if x.rel = 3 then _ else _) = (if x.rel = 2 then _ else if x.rel = 3 then _ else _)
      simp only [bne, k3]
    · have et : tightS ⟨x.rel, ⟨x.s.k.tdiv g, divT g x.s.l⟩⟩ = (⟨x.rel, ⟨x.s.k.tdiv g, divT g x.s.l⟩⟩, true) := by
        unfold tightS
        simp only [hb2, if_true, hlen2, if_false, hgl2, divT_one]
        rw [if_neg (by omega), if_neg (by decide), if_neg hr1]
        simp
      rw [et]
      exact ⟨rfl, sameS_refl _⟩
  · rw [e] at hd ⊢
    have vd := (valueS_sum hd).2
    have ed : tightS ⟨x.rel, ⟨1, []⟩⟩ = (⟨x.rel, ⟨1, []⟩⟩, true) := by
      unfold tightS
      rw [if_neg (by show ¬ (x.rel < 1 ∨ 3 < x.rel); omega), if_pos (by rfl), if_pos (by rfl)]
    rw [ed]
    refine ⟨?_, rfl, sameS_refl _⟩
    rw [holds_of hv vx, holds_of (c := ⟨x.rel, ⟨1, []⟩⟩) hd vd, if_neg hr1]
    show _ = if x.rel = 1 then _ else _
    rw [if_neg hr1]
    have k0 : wT vals [] = 0 := rfl
    have hne : ¬ x.s.k + (g : Int) * wT vals (divT g x.s.l) = 0 := fun h => hm (Int.tmod_eq_zero_of_dvd ⟨-wT vals (divT g x.s.l), by rw [Int.mul_neg]; omega⟩)
    have k1 : (x.s.k + (g : Int) * wT vals (divT g x.s.l) == 0) = false := by simpa using hne
    have k2 : ((1 : Int) + wT vals [] == 0) = false := by rw [k0]; rfl
    show (if x.rel = 2 then _ else if x.rel = 3 then _ else _) = (if x.rel = 2 then _ else if x.rel = 3 then _ else _)
    simp only [bne, k1, k2]
end Go.Proofs.Ytlafnhpmhflnaaa.Q

set_option maxRecDepth 100000
set_option maxHeartbeats 4000000
namespace Go.Proofs.Ytlafnhpmhflnaaa.Q
open Go.RowKit
variable [Amb]
theorem small_c (x : Ln) : PFun Try.prog 15 [x.v] [] (.d (.bool (decide (x.l.length ≤ 100)))) [] := by
  have e : decide (x.l.length ≤ 100) = decide (((x.l.map Tm.e).length : Int) ≤ 100) := by rw [decide_eq_decide, List.length_map]; omega
  rw [e]
  refine fn_sem pok 7 0 Try.func15 (by kernel_rfl) rfl rfl rfl rfl ?_
  refine SWp.go pok (by kernel_rfl) ?_
  refine brP_split (fun h => ?_) (fun h => ?_)
  · exact fin1 (dbool h.symm)
  · exact fin1 (dbool h.symm)
theorem noCn_ok : noCn.1.ok := ⟨(by unfold R64; decide : R64 (0 : Int)), (by unfold R64; decide : R64 (0 : Int)), fun t ht => by simp [noCn] at ht⟩
theorem divT_ok {l : List Tm} {g : Int} (h : ∀ t ∈ l, t.ok) (hg : 0 < g) : ∀ t ∈ divT g l, t.ok := fun t ht => by
  obtain ⟨u, hu, rfl⟩ := List.mem_map.1 ht
  exact ⟨(h u hu).1, (div_down (h u hu).2 hg).1⟩
theorem tightS_ok {x : Cn} (hx : x.ok) : (tightS x).1.ok := by
  have no := noCn_ok
  have gn := gcdL_nonneg (x.s.l.map (·.c))
  unfold tightS
  split
  · exact no
  split
  · split
    · exact hx
    · dsimp only
      split
      · exact no
      · rename_i hg
        have hg' : 0 < gcdL (x.s.l.map (·.c)) := by omega
        have hd := divT_ok hx.2.2 hg'
        split
        · split
          · rename_i hn
            exact ⟨(by unfold R64; decide : R64 (1 : Int)), (negdiv_r hx.2.1 hg' hn).2, hd⟩
          · exact no
        · split
          · exact ⟨hx.1, (div_down hx.2.1 hg').1, hd⟩
          · exact ⟨hx.1, (by unfold R64; decide : R64 (1 : Int)), fun t ht => by simp at ht⟩
  · exact no
theorem tightS_len (x : Cn) : (tightS x).1.s.l.length ≤ x.s.l.length := by
  unfold tightS
  split
  · exact Nat.zero_le _
  split
  · split
    · exact Nat.le_refl _
    · dsimp only
      split
      · exact Nat.zero_le _
      · split
        · split
          · simp [divT]
          · exact Nat.zero_le _
        · split
          · simp [divT]
          · exact Nat.zero_le _
  · exact Nat.zero_le _
theorem linTight_t (x : Cn) (vals : List Int) (hx : x.ok) (hv : I64 vals) : PFun Try.prog 5 [x.v, ils vals] [] (.d (.bool true)) [] := by
  refine fn_sem pok 78 0 Try.func5 (by kernel_rfl) rfl rfl rfl rfl ?_
  refine SWp.go pok (by kernel_rfl) ?_
  refine PFun.call (small_c x.s) ?_
  refine brP_split (fun h => ?_) (fun h => ?_)
  · exact PFun.call live_c (fin1 rfl)
  have hl : x.s.l.length ≤ 100 := by simpa using h
  refine brP_split (fun h => ?_) (fun h => ?_)
  · exact PFun.call live_c (fin1 rfl)
  refine PFun.call (linTight_c x hx) ?_
  refine PFun.call (linValue_c x.s vals hx.2 hv) ?_
  refine PFun.call (linValue_c (tightS x).1.s vals (tightS_ok hx).2 hv) ?_
  refine brP_split (fun h => ?_) (fun h => ?_)
  · exact PFun.call live_c (fin1 rfl)
  have h1 : (tightS x).2 = true := by simpa using h
  refine brP_split (fun h => ?_) (fun h => ?_)
  · exact PFun.call live_c (fin1 rfl)
  have h2 : (valueS x.s vals).2 = true := by simpa using h
  refine brP_split (fun h => ?_) (fun h => ?_)
  · exact PFun.call live_c (fin1 rfl)
  have h3 : (valueS (tightS x).1.s vals).2 = true := by simpa using h
  obtain ⟨l1, l2, l3⟩ := tight_law x hx vals h1 h2 h3
  have hd := tightS_ok hx
  have hlen := tightS_len (tightS x).1
  have hlen1 := tightS_len x
  have ht := linTight_c (tightS x).1 hd
  obtain ⟨d2, hd2⟩ : ∃ d2, tightS (tightS x).1 = (d2, true) := ⟨_, Prod.ext rfl l2⟩
  rw [hd2] at ht l3 hlen
  have hsame := Same_c d2.s (tightS x).1.s (by simp only at hlen; omega)
  rw [l3] at hsame
  refine PFun.call ht ?_
  refine ⟨_, _, linHolds_c x vals hx hv, ?_⟩
  refine ⟨_, _, linHolds_c (tightS x).1 vals hd hv, ?_⟩
  refine brP_true (by simp [l1]) ?_
  refine ⟨_, _, hsame, ?_⟩
  refine ⟨_, _, live_c, ?_⟩
  exact fin1 rfl
theorem linCons_t (x : Cn) (vals : List Int) (hx : x.ok) (hv : I64 vals) : PFun Try.prog 4 [x.v, ils vals] [] (.d (.bool true)) [] := by
  refine fn_sem pok 88 0 Try.func4 (by kernel_rfl) rfl rfl rfl rfl ?_
  refine SWp.go pok (by kernel_rfl) ?_
  refine PFun.call (small_c x.s) ?_
  refine brP_split (fun h => ?_) (fun h => ?_)
  · exact PFun.call live_c (fin1 rfl)
  have hl : x.s.l.length ≤ 100 := by simpa using h
  refine brP_split (fun h => ?_) (fun h => ?_)
  · exact PFun.call live_c (fin1 rfl)
  have hvl : vals.length ≤ 100 := by simp at h; omega
  refine .inl ⟨⟨fun r hr => by simp at hr, fun r hr => by obtain ⟨_, _, rfl⟩ := List.mem_map.1 hr; rfl, by simp; omega⟩, ?_⟩
  refine ⟨_, _, linValue_c x.s vals hx.2 hv, ?_⟩
  refine PFun.call (refValue_c x.s vals hx.2 hv) ?_
  refine PFun.call (linTight_c x hx) ?_
  refine PFun.call (refTight_c x hx) ?_
  have hlen := tightS_len x
  have hsame := Same_c (tightS x).1.s (tightS x).1.s (by omega)
  rw [sameS_refl] at hsame
  refine brP_true (by simp) ?_
  refine brP_true (by simp) ?_
  refine brP_true (by simp) ?_
  refine ⟨_, _, hsame, ?_⟩
  refine brP_true (by simp) ?_
  refine ⟨_, _, linHolds_c x vals hx hv, ?_⟩
  refine ⟨_, _, refHolds_c x vals hx hv, ?_⟩
  refine brP_true (by simp) ?_
  refine ⟨_, _, live_c, ?_⟩
  exact fin1 rfl
end Go.Proofs.Ytlafnhpmhflnaaa.Q
