/- Sums of variables: what they are worth, both ways. No condition. -/
import Derived.Test.YtlafnhpmhflnaaaQz
set_option linter.unusedVariables false
set_option linter.unusedSectionVars false
set_option linter.unnecessarySimpa false
set_option linter.unusedSimpArgs false
set_option maxRecDepth 100000
set_option maxHeartbeats 4000000
namespace Go.Proofs.Ytlafnhpmhflnaaa.Q
open Go.RowKit
variable [Amb]
theorem valF_no {vals : List Int} {n : Int} {l : List Tm} {k : Nat} (h : k < l.length) (g : (vals.length : Int) ≤ l[k].var) : valF vals n (l.drop k) = (0, false) := by rw [valF_at _ _ _ _ h, if_pos g]
theorem getD_of {vals : List Int} {z : Int} {v : Nat} (h : z = v) (hv : v < vals.length) : vals.getD z.toNat 0 = vals[v] := by subst h; simp [hv]
theorem valF_mul {vals : List Int} {n : Int} {l : List Tm} {k v : Nat} (h : k < l.length) (hv : v < vals.length) (g : l[k].var = v) (e : ¬ (mulS l[k].c vals[v]).2 = true) : valF vals n (l.drop k) = (0, false) := by
  rw [valF_at _ _ _ _ h, if_neg (by omega), getD_of g hv, if_neg e]
theorem valF_add {vals : List Int} {n : Int} {l : List Tm} {k v : Nat} (h : k < l.length) (hv : v < vals.length) (g : l[k].var = v) (e : (mulS l[k].c vals[v]).2 = true) (e2 : ¬ (addS n (mulS l[k].c vals[v]).1).2 = true) : valF vals n (l.drop k) = (0, false) := by
  rw [valF_at _ _ _ _ h, if_neg (by omega), getD_of g hv, if_pos e, if_neg e2]
theorem valF_go {vals : List Int} {n : Int} {l : List Tm} {k v : Nat} (h : k < l.length) (hv : v < vals.length) (g : l[k].var = v) (e : (mulS l[k].c vals[v]).2 = true) (e2 : (addS n (mulS l[k].c vals[v]).1).2 = true) : valF vals n (l.drop k) = valF vals (addS n (mulS l[k].c vals[v]).1).1 (l.drop (k + 1)) := by
  rw [valF_at _ _ _ _ h, if_neg (by omega), getD_of g hv, if_pos e, if_pos e2]
theorem mulS_r (a b : Int) : R64 (mulS a b).1 := told_r _
theorem addS_r (a b : Int) : R64 (addS a b).1 := told_r _
/-- Whole numbers that fit. -/
def I64 (l : List Int) : Prop := ∀ n ∈ l, R64 n
theorem I64.at {l : List Int} (h : I64 l) {k : Nat} (hk : k < l.length) : R64 l[k] := h _ (List.getElem_mem hk)
theorem ib_f {p : Int × Bool} (h : p = (0, false)) : V.tup [iv 0, .d (.bool false)] = ib p := by rw [h]; rfl
theorem linValue_c (x : Ln) (vals : List Int) (hx : x.ok) (hv : I64 vals) : PFun Try.prog 16 [x.v, ils vals] [] (ib (valueS x vals)) [] := by
  refine fn_sem pok 50 0 Try.func16 (by kernel_rfl) rfl rfl rfl rfl ?_
  refine SWp.go pok (by kernel_rfl) ?_
  refine PFun.call (linIs_c x) ?_
  refine brP_split (fun h => ?_) (fun h => ?_)
  · exact fin1 (ib_f (if_neg (by simpa using h)))
  have h2 : isB x.l = true := by simpa using h
  have hlen := isB_len h2
  have hval : valueS x vals = valF vals x.k x.l := if_pos h2
  refine SWp.loop (fun p : Nat × Int => p.1 ≤ x.l.length ∧ R64 p.2 ∧ valF vals p.2 (x.l.drop p.1) = valueS x vals)
    (fun p => ([(1, ils vals), (4, iv p.2), (16, .d (.sl (x.l.map Tm.e))), (17, iv (x.l.map Tm.e).length), (18, iv p.1)], [.box [.d (.int .i64 x.k), .d (.sl (x.l.map Tm.e))]]))
    (fun p => x.l.length - p.1) (0, x.k) ⟨Nat.zero_le _, hx.1, hval.symm⟩ (Le.same ⟨rfl, rfl, rfl, rfl, rfl, trivial⟩) (fun p hp => ?_)
  obtain ⟨j, n⟩ := p
  obtain ⟨hj, hn, hs⟩ := hp
  simp only at hj hn hs
  refine SWp.go pok (by kernel_rfl) ?_
  refine brP_split (fun h => ?_) (fun h => ?_)
  · have hlt : j < x.l.length := by simpa using h
    obtain ⟨r1, r2⟩ := lin_at hx hlt
    have hv0 := isB_var h2 j hlt
    refine PIdx.map (get_at hlt) ?_
    refine brP_split (fun h3 => ?_) (fun h3 => ?_)
    · exact fin1 (ib_f (by rw [← hs]; exact valF_no hlt (by simpa using h3)))
    · obtain ⟨v, hvv⟩ := Int.eq_ofNat_of_zero_le hv0
      have hvl : v < vals.length := by simp at h3; omega
      refine PIdx.map' hvv (get_at hvl) ?_
      refine ⟨_, _, numMul_c x.l[j].c vals[v] r2 (hv.at hvl), ?_⟩
      refine brP_split (fun h4 => ?_) (fun h4 => ?_)
      · exact fin1 (ib_f (by rw [← hs]; exact valF_mul hlt hvl hvv (by simpa using h4)))
      · refine PFun.call (numAdd_c n (mulS x.l[j].c vals[v]).1 hn (mulS_r _ _)) ?_
        refine brP_split (fun h5 => ?_) (fun h5 => ?_)
        · exact fin1 (ib_f (by rw [← hs]; exact valF_add hlt hvl hvv (by simpa using h4) (by simpa using h5)))
        · exact ⟨(j + 1, (addS n (mulS x.l[j].c vals[v]).1).1), ⟨hlt, addS_r _ _, by rw [← hs]; exact (valF_go hlt hvl hvv (by simpa using h4) (by simpa using h5)).symm⟩, by show x.l.length - (j + 1) < x.l.length - j; omega, .inr ⟨[0], ⟨rfl, rfl⟩, rfl, rfl, rfl, rfl, rfl, sint (wrap_nat j (by omega)), trivial⟩⟩
  · have hk : j = x.l.length := by simp at h; omega
    refine fin1 ?_
    rw [← hs, drop_nil hk]; rfl
theorem refValue_c (x : Ln) (vals : List Int) (hx : x.ok) (hv : I64 vals) : PFun Try.prog 17 [x.v, ils vals] [] (ib (valueS x vals)) [] := by
  refine fn_sem pok 66 0 Try.func17 (by kernel_rfl) rfl rfl rfl rfl ?_
  refine SWp.go pok (by kernel_rfl) ?_
  refine PFun.call (refIs_c x) ?_
  refine brP_split (fun h => ?_) (fun h => ?_)
  · exact fin1 (ib_f (if_neg (by simpa using h)))
  have h2 : isB x.l = true := by simpa using h
  have hlen := isB_len h2
  have hval : valueS x vals = valF vals x.k x.l := if_pos h2
  refine SWp.loop (fun p : Nat × Int => p.1 ≤ x.l.length ∧ R64 p.2 ∧ valF vals p.2 (x.l.drop p.1) = valueS x vals)
    (fun p => ([(1, ils vals), (2, .ptr 0 0), (6, iv p.2), (7, iv p.1)], [.box [.d (.int .i64 x.k), .d (.sl (x.l.map Tm.e))]]))
    (fun p => x.l.length - p.1) (0, x.k) ⟨Nat.zero_le _, hx.1, hval.symm⟩ (Le.same ⟨rfl, rfl, rfl, rfl, trivial⟩) (fun p hp => ?_)
  obtain ⟨j, n⟩ := p
  obtain ⟨hj, hn, hs⟩ := hp
  simp only at hj hn hs
  refine SWp.go pok (by kernel_rfl) ?_
  refine brP_split (fun h => ?_) (fun h => ?_)
  · have hlt : j < x.l.length := by simpa using h
    obtain ⟨r1, r2⟩ := lin_at hx hlt
    have hv0 := isB_var h2 j hlt
    refine PIdx.map (get_at hlt) ?_
    refine brP_split (fun h3 => ?_) (fun h3 => ?_)
    · exact fin1 (ib_f (by rw [← hs]; exact valF_no hlt (by simpa using h3)))
    · obtain ⟨v, hvv⟩ := Int.eq_ofNat_of_zero_le hv0
      have hvl : v < vals.length := by simp at h3; omega
      refine PIdx.map (get_at hlt) ?_
      refine PIdx.map (get_at hlt) ?_
      refine PIdx.map' hvv (get_at hvl) ?_
      refine ⟨_, _, refMul_c x.l[j].c vals[v] r2 (hv.at hvl), ?_⟩
      refine PFun.call (refAdd_c n (mulS x.l[j].c vals[v]).1 hn (mulS_r _ _)) ?_
      refine brP_split (fun h4 => ?_) (fun h4 => ?_)
      · exact fin1 (ib_f (by rw [← hs]; exact valF_mul hlt hvl hvv (by simpa using h4)))
      · refine brP_split (fun h5 => ?_) (fun h5 => ?_)
        · exact fin1 (ib_f (by rw [← hs]; exact valF_add hlt hvl hvv (by simpa using h4) (by simpa using h5)))
        · exact ⟨(j + 1, (addS n (mulS x.l[j].c vals[v]).1).1), ⟨hlt, addS_r _ _, by rw [← hs]; exact (valF_go hlt hvl hvv (by simpa using h4) (by simpa using h5)).symm⟩, by show x.l.length - (j + 1) < x.l.length - j; omega, Le.same ⟨rfl, rfl, rfl, sint (wrap_nat j (by omega)), trivial⟩⟩
  · have hk : j = x.l.length := by simp at h; omega
    refine fin1 ?_
    rw [← hs, drop_nil hk]; rfl
theorem holdsS_no {x : Cn} {vals : List Int} (h : (valueS x.s vals).2 = false) : holdsS x vals = false := by unfold holdsS; rw [h]; rfl
theorem holdsS_yes {x : Cn} {vals : List Int} (h : (valueS x.s vals).2 = true) : holdsS x vals = if x.rel = 1 then decide ((valueS x.s vals).1 ≤ 0) else if x.rel = 2 then (valueS x.s vals).1 == 0 else if x.rel = 3 then (valueS x.s vals).1 != 0 else false := by unfold holdsS; rw [h]; rfl
theorem linHolds_c (x : Cn) (vals : List Int) (hx : x.ok) (hv : I64 vals) : PFun Try.prog 20 [x.v, ils vals] [] (.d (.bool (holdsS x vals))) [] := by
  refine fn_sem pok 30 0 Try.func20 (by kernel_rfl) rfl rfl rfl rfl ?_
  refine SWp.go pok (by kernel_rfl) ?_
  refine PFun.call (linValue_c x.s vals hx.2 hv) ?_
  refine brP_split (fun h => ?_) (fun h => ?_)
  · exact fin1 (dbool (holdsS_no (by simpa using h)).symm)
  have hh := holdsS_yes (x := x) (vals := vals) (by simpa using h)
  refine brP_split (fun h1 => ?_) (fun h1 => ?_)
  · rw [if_pos (by simpa using h1)] at hh
    refine brP_split (fun h2 => ?_) (fun h2 => ?_)
    all_goals exact fin1 (dbool (by rw [hh, h2]))
  · rw [if_neg (by simpa using h1)] at hh
    refine brP_split (fun h1 => ?_) (fun h1 => ?_)
    · rw [if_pos (by simpa using h1)] at hh
      refine brP_split (fun h2 => ?_) (fun h2 => ?_)
      all_goals exact fin1 (dbool (by rw [hh, h2]))
    · rw [if_neg (by simpa using h1)] at hh
      refine brP_split (fun h1 => ?_) (fun h1 => ?_)
      · rw [if_pos (by simpa using h1)] at hh
        refine brP_split (fun h2 => ?_) (fun h2 => ?_)
        all_goals exact fin1 (dbool (by rw [hh, h2]))
      · rw [if_neg (by simpa using h1)] at hh
        exact fin1 (dbool hh.symm)
theorem refHolds_c (x : Cn) (vals : List Int) (hx : x.ok) (hv : I64 vals) : PFun Try.prog 21 [x.v, ils vals] [] (.d (.bool (holdsS x vals))) [] := by
  refine fn_sem pok 36 0 Try.func21 (by kernel_rfl) rfl rfl rfl rfl ?_
  refine SWp.go pok (by kernel_rfl) ?_
  refine PFun.call (refValue_c x.s vals hx.2 hv) ?_
  refine brP_split (fun h => ?_) (fun h => ?_)
  · exact fin1 (dbool (holdsS_no (by simpa using h)).symm)
  have hh := holdsS_yes (x := x) (vals := vals) (by simpa using h)
  refine brP_split (fun h1 => ?_) (fun h1 => ?_)
  · rw [if_pos (by simpa using h1)] at hh
    refine brP_split (fun h2 => ?_) (fun h2 => ?_)
    all_goals exact fin1 (dbool (by rw [hh, h2]))
  · rw [if_neg (by simpa using h1)] at hh
    refine brP_split (fun h1 => ?_) (fun h1 => ?_)
    · rw [if_pos (by simpa using h1)] at hh
      refine brP_split (fun h2 => ?_) (fun h2 => ?_)
      all_goals exact fin1 (dbool (by rw [hh, h2]))
    · rw [if_neg (by simpa using h1)] at hh
      refine brP_split (fun h1 => ?_) (fun h1 => ?_)
      · rw [if_pos (by simpa using h1)] at hh
        refine brP_split (fun h2 => ?_) (fun h2 => ?_)
        all_goals exact fin1 (dbool (by rw [hh, h2]))
      · rw [if_neg (by simpa using h1)] at hh
        exact fin1 (dbool hh.symm)
end Go.Proofs.Ytlafnhpmhflnaaa.Q
