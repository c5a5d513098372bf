/- The laws of tight sums: the function says true. No condition. -/
import Derived.Test.YtlafnhpmhflnaaaQzv
import Derived.Test.YtlafnhpmhflnaaaQpa
set_option linter.unusedVariables false
set_option linter.unusedSectionVars false
set_option linter.unnecessarySimpa false
set_option linter.unusedSimpArgs false
set_option maxRecDepth 100000
set_option maxHeartbeats 4000000
namespace Go.Proofs.Ytlafnhpmhflnaaa.Q
open Go.RowKit
variable [Amb]
theorem small_c (x : Ln) : PFun Try.prog 15 [x.v] [] (.d (.bool (decide (x.l.length ≤ 100)))) [] := by
  have e : decide (x.l.length ≤ 100) = decide (((x.l.map Tm.e).length : Int) ≤ 100) := by rw [decide_eq_decide, List.length_map]; omega
  rw [e]
  refine fn_sem pok 7 0 Try.func15 (by kernel_rfl) rfl rfl rfl rfl ?_
  refine SWp.go pok (by kernel_rfl) ?_
  refine brP_split (fun h => ?_) (fun h => ?_)
  · exact fin1 (dbool h.symm)
  · exact fin1 (dbool h.symm)
theorem noCn_ok : noCn.1.ok := ⟨(by unfold R64; decide : R64 (0 : Int)), (by unfold R64; decide : R64 (0 : Int)), fun t ht => by simp [noCn] at ht⟩
theorem divT_ok {l : List Tm} {g : Int} (h : ∀ t ∈ l, t.ok) (hg : 0 < g) : ∀ t ∈ divT g l, t.ok := fun t ht => by
  obtain ⟨u, hu, rfl⟩ := List.mem_map.1 ht
  exact ⟨(h u hu).1, (div_down (h u hu).2 hg).1⟩
theorem tightS_ok {x : Cn} (hx : x.ok) : (tightS x).1.ok := by
  have no := noCn_ok
  have gn := gcdL_nonneg (x.s.l.map (·.c))
  unfold tightS
  split
  · exact no
  split
  · split
    · exact hx
    · dsimp only
      split
      · exact no
      · rename_i hg
        have hg' : 0 < gcdL (x.s.l.map (·.c)) := by omega
        have hd := divT_ok hx.2.2 hg'
        split
        · split
          · rename_i hn
            exact ⟨(by unfold R64; decide : R64 (1 : Int)), (negdiv_r hx.2.1 hg' hn).2, hd⟩
          · exact no
        · split
          · exact ⟨hx.1, (div_down hx.2.1 hg').1, hd⟩
          · exact ⟨hx.1, (by unfold R64; decide : R64 (1 : Int)), fun t ht => by simp at ht⟩
  · exact no
theorem tightS_len (x : Cn) : (tightS x).1.s.l.length ≤ x.s.l.length := by
  unfold tightS
  split
  · exact Nat.zero_le _
  split
  · split
    · exact Nat.le_refl _
    · dsimp only
      split
      · exact Nat.zero_le _
      · split
        · split
          · simp [divT]
          · exact Nat.zero_le _
        · split
          · simp [divT]
          · exact Nat.zero_le _
  · exact Nat.zero_le _
theorem linTight_t (x : Cn) (vals : List Int) (hx : x.ok) (hv : I64 vals) : PFun Try.prog 5 [x.v, ils vals] [] (.d (.bool true)) [] := by
  refine fn_sem pok 78 0 Try.func5 (by kernel_rfl) rfl rfl rfl rfl ?_
  refine SWp.go pok (by kernel_rfl) ?_
  refine PFun.call (small_c x.s) ?_
  refine brP_split (fun h => ?_) (fun h => ?_)
  · exact PFun.call live_c (fin1 rfl)
  have hl : x.s.l.length ≤ 100 := by simpa using h
  refine brP_split (fun h => ?_) (fun h => ?_)
  · exact PFun.call live_c (fin1 rfl)
  refine PFun.call (linTight_c x hx) ?_
  refine PFun.call (linValue_c x.s vals hx.2 hv) ?_
  refine PFun.call (linValue_c (tightS x).1.s vals (tightS_ok hx).2 hv) ?_
  refine brP_split (fun h => ?_) (fun h => ?_)
  · exact PFun.call live_c (fin1 rfl)
  have h1 : (tightS x).2 = true := by simpa using h
  refine brP_split (fun h => ?_) (fun h => ?_)
  · exact PFun.call live_c (fin1 rfl)
  have h2 : (valueS x.s vals).2 = true := by simpa using h
  refine brP_split (fun h => ?_) (fun h => ?_)
  · exact PFun.call live_c (fin1 rfl)
  have h3 : (valueS (tightS x).1.s vals).2 = true := by simpa using h
  obtain ⟨l1, l2, l3⟩ := tight_law x hx vals h1 h2 h3
  have hd := tightS_ok hx
  have hlen := tightS_len (tightS x).1
  have hlen1 := tightS_len x
  have ht := linTight_c (tightS x).1 hd
  obtain ⟨d2, hd2⟩ : ∃ d2, tightS (tightS x).1 = (d2, true) := ⟨_, Prod.ext rfl l2⟩
  rw [hd2] at ht l3 hlen
  have hsame := Same_c d2.s (tightS x).1.s (by simp only at hlen; omega)
  rw [l3] at hsame
  refine PFun.call ht ?_
  refine ⟨_, _, linHolds_c x vals hx hv, ?_⟩
  refine ⟨_, _, linHolds_c (tightS x).1 vals hd hv, ?_⟩
  refine brP_true (by simp [l1]) ?_
  refine ⟨_, _, hsame, ?_⟩
  refine ⟨_, _, live_c, ?_⟩
  exact fin1 rfl
theorem linCons_t (x : Cn) (vals : List Int) (hx : x.ok) (hv : I64 vals) : PFun Try.prog 4 [x.v, ils vals] [] (.d (.bool true)) [] := by
  refine fn_sem pok 88 0 Try.func4 (by kernel_rfl) rfl rfl rfl rfl ?_
  refine SWp.go pok (by kernel_rfl) ?_
  refine PFun.call (small_c x.s) ?_
  refine brP_split (fun h => ?_) (fun h => ?_)
  · exact PFun.call live_c (fin1 rfl)
  have hl : x.s.l.length ≤ 100 := by simpa using h
  refine brP_split (fun h => ?_) (fun h => ?_)
  · exact PFun.call live_c (fin1 rfl)
  have hvl : vals.length ≤ 100 := by simp at h; omega
  refine ⟨⟨fun r hr => by simp at hr, fun r hr => by obtain ⟨_, _, rfl⟩ := List.mem_map.1 hr; rfl, by simp; omega⟩, ?_⟩
  refine ⟨_, _, linValue_c x.s vals hx.2 hv, ?_⟩
  refine PFun.call (refValue_c x.s vals hx.2 hv) ?_
  refine PFun.call (linTight_c x hx) ?_
  refine PFun.call (refTight_c x hx) ?_
  have hlen := tightS_len x
  have hsame := Same_c (tightS x).1.s (tightS x).1.s (by omega)
  rw [sameS_refl] at hsame
  refine brP_true (by simp) ?_
  refine brP_true (by simp) ?_
  refine brP_true (by simp) ?_
  refine ⟨_, _, hsame, ?_⟩
  refine brP_true (by simp) ?_
  refine ⟨_, _, linHolds_c x vals hx hv, ?_⟩
  refine ⟨_, _, refHolds_c x vals hx hv, ?_⟩
  refine brP_true (by simp) ?_
  refine ⟨_, _, live_c, ?_⟩
  exact fin1 rfl
end Go.Proofs.Ytlafnhpmhflnaaa.Q
