/- Sums of variables: what lin and the reference compute. No condition. -/
import Derived.Test.YtlafnhpmhflnaaaMC
import Derived.Test.YtlafnhpmhflnaaaMB
set_option linter.unusedVariables false
set_option linter.unusedSectionVars false
set_option linter.unnecessarySimpa false
set_option linter.unusedSimpArgs false
set_option maxRecDepth 100000
set_option maxHeartbeats 4000000
namespace Go.Proofs.Ytlafnhpmhflnaaa.Q
open Go.RowKit
variable [Amb]
theorem refIs_c (x : Ln) : PFun Try.prog 29 [x.v] [] (.d (.bool (isB x.l))) [] := by
  refine fn_sem pok 51 0 Try.func29 (by kernel_rfl) rfl rfl rfl rfl ?_
  refine SWp.go pok (by kernel_rfl) ?_
  refine brP_split (fun h => ?_) (fun h => ?_)
  · have e : isB x.l = false := by unfold isB; simp at h; simp; omega
    exact ⟨by rw [e], rfl⟩
  · have hlen : x.l.length ≤ 40 := by simp at h; omega
    refine SWp.loop (fun k : Nat => k ≤ x.l.length ∧ okFrom (lastV x.l k) (x.l.drop k) = isB x.l ∧ -1 ≤ lastV x.l k) (fun k => ([(1, .ptr 0 0), (3, .d (.int .i64 k))], [.box [.d (.int .i64 x.k), .d (.sl (x.l.map Tm.e))]])) (fun k => x.l.length - k) 0 ?_ (Le.same ⟨rfl, rfl, trivial⟩) (fun k hk => ?_)
    · exact ⟨Nat.zero_le _, by simp [isB, lastV, hlen], by simp [lastV]⟩
    · obtain ⟨h1, h2, h3⟩ := hk
      refine SWp.go pok (by kernel_rfl) ?_
      refine brP_split (fun h => ?_) (fun h => ?_)
      · have hlt : k < x.l.length := by simpa using h
        have hat := okFrom_at (lastV x.l k) x.l k hlt
        have hx := List.getElem?_eq_getElem hlt
        have fin : okFrom (lastV x.l k) (x.l.drop k) = false → isB x.l = false := fun e => by rw [← h2]; exact e
        refine PIdx.map hx ?_
        refine brP_split (fun h4 => ?_) (fun h4 => ?_)
        · refine ⟨?_, rfl⟩
          rw [fin]
          rw [hat, if_pos]; left; simp at h4; omega
        · refine PIdx.map hx ?_
          refine brP_split (fun h5 => ?_) (fun h5 => ?_)
          · refine ⟨?_, rfl⟩
            rw [fin]
            rw [hat, if_pos]; right; simpa using h5
          · have good : ¬ (x.l[k].var ≤ lastV x.l k) → isB x.l = okFrom (lastV x.l (k + 1)) (x.l.drop (k + 1)) := fun hn => by
              rw [← h2, hat, if_neg (by simp at h5; omega), lastV_succ hlt]
            refine brP_split (fun h6 => ?_) (fun h6 => ?_)
            · have hk0 : 0 < k := by simpa using h6
              have hx1 : x.l[k - 1]? = some (x.l[k - 1]'(by omega)) := List.getElem?_eq_getElem (by omega)
              have hw : IntKind.i64.wrap ((k : Int) - 1) = ((k - 1 : Nat) : Int) := by rw [IntKind.wrap_i64]; omega
              have hlv : lastV x.l k = (x.l[k - 1]'(by omega)).var := by
                simp only [lastV, if_neg (by omega : ¬ k = 0), List.getD_eq_getElem?_getD, hx1]; rfl
              refine PIdx.map' hw hx1 ?_
              refine PIdx.map hx ?_
              refine brP_split (fun h7 => ?_) (fun h7 => ?_)
              · refine ⟨?_, rfl⟩
                rw [fin]
                rw [hat, if_pos]; left; simp at h7; omega
              · exact ⟨k + 1, ⟨by omega, (good (by simp at h7; omega)).symm, by rw [lastV_succ hlt]; simp at h4; omega⟩, by omega, Le.same ⟨rfl, by rw [← wrap_nat k (by omega)]; rfl, trivial⟩⟩
            · have hk0 : k = 0 := by simp at h6; omega
              subst hk0
              exact ⟨1, ⟨by omega, (good (by simp at h4; simp [lastV]; omega)).symm, by rw [lastV_succ hlt]; simp at h4; omega⟩, by omega, Le.same ⟨rfl, rfl, trivial⟩⟩
      · have hk : k = x.l.length := by simp at h; omega
        refine ⟨?_, rfl⟩
        rw [← h2, hk, List.drop_length]; rfl
theorem linIs_c (x : Ln) : PFun Try.prog 28 [x.v] [] (.d (.bool (isB x.l))) [] := by
  refine fn_sem pok 29 0 Try.func28 (by kernel_rfl) rfl rfl rfl rfl ?_
  refine SWp.go pok (by kernel_rfl) ?_
  refine brP_split (fun h => ?_) (fun h => ?_)
  · have e : isB x.l = false := by unfold isB; simp at h; simp; omega
    exact fin1 (dbool e.symm)
  · have hlen : x.l.length ≤ 40 := by simp at h; omega
    refine SWp.loop (fun p : Nat × Int => p.1 ≤ x.l.length ∧ okFrom p.2 (x.l.drop p.1) = isB x.l) (fun p => ([(3, iv p.2), (11, .d (.sl (x.l.map Tm.e))), (12, iv (x.l.map Tm.e).length), (13, iv p.1)], [.box [.d (.int .i64 x.k), .d (.sl (x.l.map Tm.e))]])) (fun p => x.l.length - p.1) (0, -1) ?_ (Le.same ⟨rfl, rfl, rfl, rfl, trivial⟩) (fun p hp => ?_)
    · exact ⟨Nat.zero_le _, by simp [isB, hlen]⟩
    · obtain ⟨k, last⟩ := p
      obtain ⟨h1, h2⟩ := hp
      refine SWp.go pok (by kernel_rfl) ?_
      refine brP_split (fun h => ?_) (fun h => ?_)
      · have hlt : k < x.l.length := by simpa using h
        have hat := okFrom_at last x.l k hlt
        refine PIdx.map (get_at hlt) ?_
        refine brP_split (fun h4 => ?_) (fun h4 => ?_)
        · exact fin1 (dbool (by rw [← h2]; show _ = okFrom _ _; rw [hat, if_pos (.inl (by simpa using h4))]))
        · refine brP_split (fun h5 => ?_) (fun h5 => ?_)
          · exact fin1 (dbool (by rw [← h2]; show _ = okFrom _ _; rw [hat, if_pos (.inr (by simpa using h5))]))
          · refine ⟨(k + 1, x.l[k].var), ⟨hlt, ?_⟩, by show x.l.length - (k + 1) < x.l.length - k; omega, .inr ⟨[0], ⟨rfl, rfl⟩, rfl, rfl, rfl, rfl, ?_, trivial⟩⟩
            · rw [← h2]; show _ = okFrom _ _; rw [hat, if_neg (by simp at h4 h5; simp; omega)]
            · exact sint (wrap_nat k (by omega))
      · have hk : k = x.l.length := by simp at h; omega
        exact fin1 (dbool (by rw [← h2]; show _ = okFrom _ (x.l.drop k); rw [hk, List.drop_length]; rfl))
theorem drop_nil {α : Type} {l : List α} {k : Nat} (h : k = l.length) : l.drop k = [] := by subst h; exact List.drop_length
theorem opt_app (l : Option (List Tm)) (acc : List Tm) (t : Tm) : (l.map (fun r => t :: r)).map (acc ++ ·) = l.map (acc ++ [t] ++ ·) := by cases l <;> simp
theorem RL_one {r : List D} {n : Nat} (h : r.length = n) : RL [r] n := fun q hq => by rw [List.mem_singleton.1 hq]; exact h
theorem RL_map (l : List Tm) : RL (l.map Tm.e) 2 := fun r hr => by obtain ⟨t, _, rfl⟩ := List.mem_map.1 hr; rfl
theorem linScale_c (x : Ln) (k : Int) (hx : x.ok) (hk : R64 k) : PFun Try.prog 24 [x.v, iv k] [] (lb (scaleS x k)) [] := by
  have c1 := numMul_c x.k k hx.1 hk
  refine fn_sem pok 53 0 Try.func24 (by kernel_rfl) rfl rfl rfl rfl ?_
  refine SWp.go pok (by kernel_rfl) ?_
  refine PFun.call c1 ?_
  refine brP_split (fun h => ?_) (fun h => ?_)
  · exact fin1 (by rw [scale_no1 (by simpa using h)]; rfl)
  have h1 : (mulS x.k k).2 = true := by simpa using h
  refine PFun.call (linIs_c x) ?_
  refine brP_split (fun h => ?_) (fun h => ?_)
  · exact fin1 (by rw [scale_no2 (by simpa using h)]; rfl)
  have h2 : isB x.l = true := by simpa using h
  have hlen := isB_len h2
  refine SWp.tipBox 1 1 2 rfl rfl ?_
  refine SWp.loop (fun p : Nat × List (List D) => ∃ acc : List Tm, p.2 = acc.map Tm.e ∧ p.1 ≤ x.l.length ∧ acc.length ≤ p.1 ∧ (scaleT k (x.l.drop p.1)).map (acc ++ ·) = scaleT k x.l)
    (fun p => ([(1, iv k), (2, .ptr 0 0), (4, .ptr 1 0), (25, .d (.sl (x.l.map Tm.e))), (26, iv (x.l.map Tm.e).length), (27, iv p.1)], [.box [.d (.int .i64 x.k), .d (.sl (x.l.map Tm.e))], .box [iv (mulS x.k k).1, .gsl p.2 2], .tip 2 p.2.length]))
    (fun p => x.l.length - p.1) (0, []) ⟨[], rfl, Nat.zero_le _, Nat.le_refl _, by show (scaleT k x.l).map _ = scaleT k x.l; cases scaleT k x.l <;> simp⟩ (Le.same ⟨rfl, rfl, rfl, rfl, rfl, rfl, trivial⟩) (fun p hp => ?_)
  obtain ⟨j, rows⟩ := p
  obtain ⟨acc, hr, hj, hac, hs⟩ := hp
  simp only at hr hj hac hs
  subst hr
  refine SWp.go pok (by kernel_rfl) ?_
  refine brP_split (fun h => ?_) (fun h => ?_)
  · have hlt : j < x.l.length := by simpa using h
    have hat := scaleT_at k x.l j hlt
    refine PIdx.map (get_at hlt) ?_
    refine PFun.call (numMul_c x.l[j].c k (lin_at hx hlt).2 hk) ?_
    refine brP_split (fun h3 => ?_) (fun h3 => ?_)
    · refine fin1 ?_
      rw [scale_no3 (by rw [← hs, hat, if_neg (by simpa using h3)]; rfl)]; rfl
    · rw [if_pos (by simpa using h3)] at hat
      refine brP_split (fun h4 => ?_) (fun h4 => ?_)
      · have h4' : ¬ (mulS x.l[j].c k).1 = 0 := by simpa using h4
        refine ⟨⟨rfl, RL_map acc, ?_, ?_⟩, ?_⟩
        · exact RL_one rfl
        · simp; omega
        · refine ⟨(j + 1, acc.map Tm.e ++ [Tm.e ⟨x.l[j].var, (mulS x.l[j].c k).1⟩]), ⟨acc ++ [⟨x.l[j].var, (mulS x.l[j].c k).1⟩], by simp, hlt, by simp; omega, ?_⟩, by show x.l.length - (j + 1) < x.l.length - j; omega, .inr ⟨[0, 1, 2], ⟨rfl, rfl⟩, rfl, rfl, rfl, rfl, rfl, rfl, sint (wrap_nat j (by omega)), trivial⟩⟩
          rw [← hs, hat, ← opt_app]; simp only [if_neg h4']
      · have h4' : (mulS x.l[j].c k).1 = 0 := by simpa using h4
        refine ⟨(j + 1, acc.map Tm.e), ⟨acc, rfl, hlt, by show acc.length ≤ j + 1; omega, ?_⟩, by show x.l.length - (j + 1) < x.l.length - j; omega, .inr ⟨[0, 1, 2], ⟨rfl, rfl⟩, rfl, rfl, rfl, rfl, rfl, rfl, sint (wrap_nat j (by omega)), trivial⟩⟩
        rw [← hs, hat]; simp only [if_pos h4', Option.map_id']
  · have hk : j = x.l.length := by simp at h; omega
    refine fin1 ?_
    rw [drop_nil hk] at hs
    rw [scale_yes h1 h2 hs.symm]
    simp [lb, Ln.v]
end Go.Proofs.Ytlafnhpmhflnaaa.Q

namespace Go.Proofs.Ytlafnhpmhflnaaa.Q
open Go.RowKit
variable [Amb]
theorem valF_no {vals : List Int} {n : Int} {l : List Tm} {k : Nat} (h : k < l.length) (g : (vals.length : Int) ≤ l[k].var) : valF vals n (l.drop k) = (0, false) := by rw [valF_at _ _ _ _ h, if_pos g]
theorem getD_of {vals : List Int} {z : Int} {v : Nat} (h : z = v) (hv : v < vals.length) : vals.getD z.toNat 0 = vals[v] := by subst h; simp [hv]
theorem valF_mul {vals : List Int} {n : Int} {l : List Tm} {k v : Nat} (h : k < l.length) (hv : v < vals.length) (g : l[k].var = v) (e : ¬ (mulS l[k].c vals[v]).2 = true) : valF vals n (l.drop k) = (0, false) := by
  rw [valF_at _ _ _ _ h, if_neg (by omega), getD_of g hv, if_neg e]
theorem valF_add {vals : List Int} {n : Int} {l : List Tm} {k v : Nat} (h : k < l.length) (hv : v < vals.length) (g : l[k].var = v) (e : (mulS l[k].c vals[v]).2 = true) (e2 : ¬ (addS n (mulS l[k].c vals[v]).1).2 = true) : valF vals n (l.drop k) = (0, false) := by
  rw [valF_at _ _ _ _ h, if_neg (by omega), getD_of g hv, if_pos e, if_neg e2]
theorem valF_go {vals : List Int} {n : Int} {l : List Tm} {k v : Nat} (h : k < l.length) (hv : v < vals.length) (g : l[k].var = v) (e : (mulS l[k].c vals[v]).2 = true) (e2 : (addS n (mulS l[k].c vals[v]).1).2 = true) : valF vals n (l.drop k) = valF vals (addS n (mulS l[k].c vals[v]).1).1 (l.drop (k + 1)) := by
  rw [valF_at _ _ _ _ h, if_neg (by omega), getD_of g hv, if_pos e, if_pos e2]
theorem mulS_r (a b : Int) : R64 (mulS a b).1 := told_r _
theorem addS_r (a b : Int) : R64 (addS a b).1 := told_r _
/-- Whole numbers that fit. -/
def I64 (l : List Int) : Prop := ∀ n ∈ l, R64 n
theorem I64.at {l : List Int} (h : I64 l) {k : Nat} (hk : k < l.length) : R64 l[k] := h _ (List.getElem_mem hk)
theorem ib_f {p : Int × Bool} (h : p = (0, false)) : V.tup [iv 0, .d (.bool false)] = ib p := by rw [h]; rfl
theorem linValue_c (x : Ln) (vals : List Int) (hx : x.ok) (hv : I64 vals) : PFun Try.prog 16 [x.v, ils vals] [] (ib (valueS x vals)) [] := by
  refine fn_sem pok 50 0 Try.func16 (by kernel_rfl) rfl rfl rfl rfl ?_
  refine SWp.go pok (by kernel_rfl) ?_
  refine PFun.call (linIs_c x) ?_
  refine brP_split (fun h => ?_) (fun h => ?_)
  · exact fin1 (ib_f (if_neg (by simpa using h)))
  have h2 : isB x.l = true := by simpa using h
  have hlen := isB_len h2
  have hval : valueS x vals = valF vals x.k x.l := if_pos h2
  refine SWp.loop (fun p : Nat × Int => p.1 ≤ x.l.length ∧ R64 p.2 ∧ valF vals p.2 (x.l.drop p.1) = valueS x vals)
    (fun p => ([(1, ils vals), (4, iv p.2), (16, .d (.sl (x.l.map Tm.e))), (17, iv (x.l.map Tm.e).length), (18, iv p.1)], [.box [.d (.int .i64 x.k), .d (.sl (x.l.map Tm.e))]]))
    (fun p => x.l.length - p.1) (0, x.k) ⟨Nat.zero_le _, hx.1, hval.symm⟩ (Le.same ⟨rfl, rfl, rfl, rfl, rfl, trivial⟩) (fun p hp => ?_)
  obtain ⟨j, n⟩ := p
  obtain ⟨hj, hn, hs⟩ := hp
  simp only at hj hn hs
  refine SWp.go pok (by kernel_rfl) ?_
  refine brP_split (fun h => ?_) (fun h => ?_)
  · have hlt : j < x.l.length := by simpa using h
    obtain ⟨r1, r2⟩ := lin_at hx hlt
    have hv0 := isB_var h2 j hlt
    refine PIdx.map (get_at hlt) ?_
    refine brP_split (fun h3 => ?_) (fun h3 => ?_)
    · exact fin1 (ib_f (by rw [← hs]; exact valF_no hlt (by simpa using h3)))
    · obtain ⟨v, hvv⟩ := Int.eq_ofNat_of_zero_le hv0
      have hvl : v < vals.length := by simp at h3; omega
      refine PIdx.map' hvv (get_at hvl) ?_
      refine ⟨_, _, numMul_c x.l[j].c vals[v] r2 (hv.at hvl), ?_⟩
      refine brP_split (fun h4 => ?_) (fun h4 => ?_)
      · exact fin1 (ib_f (by rw [← hs]; exact valF_mul hlt hvl hvv (by simpa using h4)))
      · refine PFun.call (numAdd_c n (mulS x.l[j].c vals[v]).1 hn (mulS_r _ _)) ?_
        refine brP_split (fun h5 => ?_) (fun h5 => ?_)
        · exact fin1 (ib_f (by rw [← hs]; exact valF_add hlt hvl hvv (by simpa using h4) (by simpa using h5)))
        · exact ⟨(j + 1, (addS n (mulS x.l[j].c vals[v]).1).1), ⟨hlt, addS_r _ _, by rw [← hs]; exact (valF_go hlt hvl hvv (by simpa using h4) (by simpa using h5)).symm⟩, by show x.l.length - (j + 1) < x.l.length - j; omega, .inr ⟨[0], ⟨rfl, rfl⟩, rfl, rfl, rfl, rfl, rfl, sint (wrap_nat j (by omega)), trivial⟩⟩
  · have hk : j = x.l.length := by simp at h; omega
    refine fin1 ?_
    rw [← hs, drop_nil hk]; rfl
theorem refValue_c (x : Ln) (vals : List Int) (hx : x.ok) (hv : I64 vals) : PFun Try.prog 17 [x.v, ils vals] [] (ib (valueS x vals)) [] := by
  refine fn_sem pok 66 0 Try.func17 (by kernel_rfl) rfl rfl rfl rfl ?_
  refine SWp.go pok (by kernel_rfl) ?_
  refine PFun.call (refIs_c x) ?_
  refine brP_split (fun h => ?_) (fun h => ?_)
  · exact fin1 (ib_f (if_neg (by simpa using h)))
  have h2 : isB x.l = true := by simpa using h
  have hlen := isB_len h2
  have hval : valueS x vals = valF vals x.k x.l := if_pos h2
  refine SWp.loop (fun p : Nat × Int => p.1 ≤ x.l.length ∧ R64 p.2 ∧ valF vals p.2 (x.l.drop p.1) = valueS x vals)
    (fun p => ([(1, ils vals), (2, .ptr 0 0), (6, iv p.2), (7, iv p.1)], [.box [.d (.int .i64 x.k), .d (.sl (x.l.map Tm.e))]]))
    (fun p => x.l.length - p.1) (0, x.k) ⟨Nat.zero_le _, hx.1, hval.symm⟩ (Le.same ⟨rfl, rfl, rfl, rfl, trivial⟩) (fun p hp => ?_)
  obtain ⟨j, n⟩ := p
  obtain ⟨hj, hn, hs⟩ := hp
  simp only at hj hn hs
  refine SWp.go pok (by kernel_rfl) ?_
  refine brP_split (fun h => ?_) (fun h => ?_)
  · have hlt : j < x.l.length := by simpa using h
    obtain ⟨r1, r2⟩ := lin_at hx hlt
    have hv0 := isB_var h2 j hlt
    refine PIdx.map (get_at hlt) ?_
    refine brP_split (fun h3 => ?_) (fun h3 => ?_)
    · exact fin1 (ib_f (by rw [← hs]; exact valF_no hlt (by simpa using h3)))
    · obtain ⟨v, hvv⟩ := Int.eq_ofNat_of_zero_le hv0
      have hvl : v < vals.length := by simp at h3; omega
      refine PIdx.map (get_at hlt) ?_
      refine PIdx.map (get_at hlt) ?_
      refine PIdx.map' hvv (get_at hvl) ?_
      refine ⟨_, _, refMul_c x.l[j].c vals[v] r2 (hv.at hvl), ?_⟩
      refine PFun.call (refAdd_c n (mulS x.l[j].c vals[v]).1 hn (mulS_r _ _)) ?_
      refine brP_split (fun h4 => ?_) (fun h4 => ?_)
      · exact fin1 (ib_f (by rw [← hs]; exact valF_mul hlt hvl hvv (by simpa using h4)))
      · refine brP_split (fun h5 => ?_) (fun h5 => ?_)
        · exact fin1 (ib_f (by rw [← hs]; exact valF_add hlt hvl hvv (by simpa using h4) (by simpa using h5)))
        · exact ⟨(j + 1, (addS n (mulS x.l[j].c vals[v]).1).1), ⟨hlt, addS_r _ _, by rw [← hs]; exact (valF_go hlt hvl hvv (by simpa using h4) (by simpa using h5)).symm⟩, by show x.l.length - (j + 1) < x.l.length - j; omega, Le.same ⟨rfl, rfl, rfl, sint (wrap_nat j (by omega)), trivial⟩⟩
  · have hk : j = x.l.length := by simp at h; omega
    refine fin1 ?_
    rw [← hs, drop_nil hk]; rfl
theorem holdsS_no {x : Cn} {vals : List Int} (h : (valueS x.s vals).2 = false) : holdsS x vals = false := by unfold holdsS; rw [h]; rfl
theorem holdsS_yes {x : Cn} {vals : List Int} (h : (valueS x.s vals).2 = true) : holdsS x vals = if x.rel = 1 then decide ((valueS x.s vals).1 ≤ 0) else if x.rel = 2 then (valueS x.s vals).1 == 0 else if x.rel = 3 then (valueS x.s vals).1 != 0 else false := by unfold holdsS; rw [h]; rfl
theorem linHolds_c (x : Cn) (vals : List Int) (hx : x.ok) (hv : I64 vals) : PFun Try.prog 20 [x.v, ils vals] [] (.d (.bool (holdsS x vals))) [] := by
  refine fn_sem pok 30 0 Try.func20 (by kernel_rfl) rfl rfl rfl rfl ?_
  refine SWp.go pok (by kernel_rfl) ?_
  refine PFun.call (linValue_c x.s vals hx.2 hv) ?_
  refine brP_split (fun h => ?_) (fun h => ?_)
  · exact fin1 (dbool (holdsS_no (by simpa using h)).symm)
  have hh := holdsS_yes (x := x) (vals := vals) (by simpa using h)
  refine brP_split (fun h1 => ?_) (fun h1 => ?_)
  · rw [if_pos (by simpa using h1)] at hh
    refine brP_split (fun h2 => ?_) (fun h2 => ?_)
    all_goals exact fin1 (dbool (by rw [hh, h2]))
  · rw [if_neg (by simpa using h1)] at hh
    refine brP_split (fun h1 => ?_) (fun h1 => ?_)
    · rw [if_pos (by simpa using h1)] at hh
      refine brP_split (fun h2 => ?_) (fun h2 => ?_)
      all_goals exact fin1 (dbool (by rw [hh, h2]))
    · rw [if_neg (by simpa using h1)] at hh
      refine brP_split (fun h1 => ?_) (fun h1 => ?_)
      · rw [if_pos (by simpa using h1)] at hh
        refine brP_split (fun h2 => ?_) (fun h2 => ?_)
        all_goals exact fin1 (dbool (by rw [hh, h2]))
      · rw [if_neg (by simpa using h1)] at hh
        exact fin1 (dbool hh.symm)
theorem refHolds_c (x : Cn) (vals : List Int) (hx : x.ok) (hv : I64 vals) : PFun Try.prog 21 [x.v, ils vals] [] (.d (.bool (holdsS x vals))) [] := by
  refine fn_sem pok 36 0 Try.func21 (by kernel_rfl) rfl rfl rfl rfl ?_
  refine SWp.go pok (by kernel_rfl) ?_
  refine PFun.call (refValue_c x.s vals hx.2 hv) ?_
  refine brP_split (fun h => ?_) (fun h => ?_)
  · exact fin1 (dbool (holdsS_no (by simpa using h)).symm)
  have hh := holdsS_yes (x := x) (vals := vals) (by simpa using h)
  refine brP_split (fun h1 => ?_) (fun h1 => ?_)
  · rw [if_pos (by simpa using h1)] at hh
    refine brP_split (fun h2 => ?_) (fun h2 => ?_)
    all_goals exact fin1 (dbool (by rw [hh, h2]))
  · rw [if_neg (by simpa using h1)] at hh
    refine brP_split (fun h1 => ?_) (fun h1 => ?_)
    · rw [if_pos (by simpa using h1)] at hh
      refine brP_split (fun h2 => ?_) (fun h2 => ?_)
      all_goals exact fin1 (dbool (by rw [hh, h2]))
    · rw [if_neg (by simpa using h1)] at hh
      refine brP_split (fun h1 => ?_) (fun h1 => ?_)
      · rw [if_pos (by simpa using h1)] at hh
        refine brP_split (fun h2 => ?_) (fun h2 => ?_)
        all_goals exact fin1 (dbool (by rw [hh, h2]))
      · rw [if_neg (by simpa using h1)] at hh
        exact fin1 (dbool hh.symm)
end Go.Proofs.Ytlafnhpmhflnaaa.Q

namespace Go.Proofs.Ytlafnhpmhflnaaa.Q
open Go.RowKit
variable [Amb]
theorem cs_r {x : Ln} (h : x.ok) : ∀ n ∈ x.l.map (·.c), R64 n := fun n hn => by
  obtain ⟨t, ht, rfl⟩ := List.mem_map.1 hn
  exact (h.2 t ht).2
def part (l : List Tm) (k : Nat) : List (List D) := (l.take k).map (fun t => ic t.c) ++ List.replicate (l.length - k) (ic 0)
theorem part_len (l : List Tm) (k : Nat) (h : k ≤ l.length) : (part l k).length = l.length := by simp [part]; omega
theorem part_set (l : List Tm) (k : Nat) (h : k < l.length) : (part l k).set k (ic l[k].c) = part l (k + 1) := by
  unfold part
  rw [take_snoc l k h, List.map_append, List.set_append, if_neg (by simp; omega)]
  have e1 : k - ((l.take k).map (fun t => ic t.c)).length = 0 := by simp; omega
  rw [e1, show l.length - k = (l.length - (k + 1)) + 1 by omega, List.replicate_succ, List.set_cons_zero, List.append_assoc]
  rfl
theorem part_at (l : List Tm) (k : Nat) (h : k < l.length) : (part l k)[k]? = some (ic 0) := by
  unfold part
  rw [List.getElem?_append_right (by simp; omega), List.getElem?_replicate, if_pos (by simp; omega)]
theorem part_all (l : List Tm) : part l l.length = (l.map (·.c)).map ic := by simp [part, List.map_map]
theorem divisor_c (x : Ln) (hx : x.ok) (hl : x.l.length < 1073741824) : PFun Try.prog 40 [x.v] [] (iv (gcdL (x.l.map (·.c)))) [] := by
  refine fn_sem pok 26 0 Try.func40 (by kernel_rfl) rfl rfl rfl rfl ?_
  refine SWp.go pok (by kernel_rfl) ?_
  refine ⟨⟨by simp, by simp, by simp; omega⟩, rfl, ?_⟩
  refine SWp.loop (fun p : Nat × List (List D) => p.1 ≤ x.l.length ∧ p.2 = part x.l p.1)
    (fun p => ([(3, .arr 1 0 (x.l.map Tm.e).length), (11, .d (.sl (x.l.map Tm.e))), (12, iv (x.l.map Tm.e).length), (13, iv p.1)], [.box [.d (.int .i64 x.k), .d (.sl (x.l.map Tm.e))], .parr 1 p.2]))
    (fun p => x.l.length - p.1) (0, List.replicate (x.l.map Tm.e).length (ic 0)) ⟨Nat.zero_le _, by simp [part]⟩ (Le.same ⟨rfl, rfl, rfl, rfl, trivial⟩) (fun p hp => ?_)
  obtain ⟨j, rows⟩ := p
  obtain ⟨hj, hs⟩ := hp
  simp only at hj hs
  subst hs
  refine SWp.go pok (by kernel_rfl) ?_
  refine brP_split (fun h => ?_) (fun h => ?_)
  · have hlt : j < x.l.length := by simpa using h
    refine PIdx.map (get_at hlt) ?_
    refine ⟨by simp; omega, ?_⟩
    refine ⟨ic 0, ?_, ?_⟩
    · show (part x.l j)[0 + j]? = _
      rw [Nat.zero_add]; exact part_at x.l j hlt
    · exact ⟨(j + 1, (part x.l j).set (0 + j) (ic x.l[j].c)), ⟨hlt, by rw [Nat.zero_add]; exact part_set x.l j hlt⟩, by show x.l.length - (j + 1) < x.l.length - j; omega, .inr ⟨[0, 1], ⟨rfl, rfl⟩, rfl, rfl, rfl, rfl, sint (wrap_nat j (by omega)), trivial⟩⟩
  · have hk : j = x.l.length := by simp at h; omega
    subst hk
    rw [part_all]
    refine PCalls.freeze (e := 1) (rows := (x.l.map (·.c)).map ic) 0 0 (congrArg (fun n => some (V.arr 0 0 n)) (by simp)) rfl ?_
    exact PFun.frame (numGcd_c _ (by simp; omega) (cs_r hx)) rfl rfl (fin1 rfl)
theorem negdiv_r {k g : Int} (hk : R64 k) (hg : 0 < g) (h : (negS k).2 = true) : R64 (negS k).1 ∧ R64 (-(divS (negS k).1 g)) := by
  have hr : R64 (-k) := by
    by_cases q : R64 (-k)
    · exact q
    · unfold negS at h; rw [told_no q] at h; cases h
  have e : (negS k).1 = -k := by unfold negS; rw [told_yes hr]
  rw [e]
  refine ⟨hr, ?_⟩
  unfold divS
  rw [if_neg (by omega)]
  obtain ⟨_, _, _, _, r⟩ := div_down hr hg
  unfold R64 at r hr hk ⊢
  rcases Int.lt_or_le (-k) 0 with n | n
  · have e1 : -k ≤ -k / g := Int.le_ediv_of_mul_le hg (by have := Int.mul_le_mul_of_nonpos_left (a := -k) (b := g) (c := 1) (by omega) (by omega); omega)
    omega
  · have e1 : 0 ≤ -k / g := Int.ediv_nonneg n (by omega)
    omega
theorem divT_snoc (g : Int) {l : List Tm} {j : Nat} (h : j < l.length) : (divT g (l.take (j + 1))).map Tm.e = (divT g (l.take j)).map Tm.e ++ [[.int .i64 l[j].var, .int .i64 (l[j].c.tdiv g)]] := by
  unfold divT; rw [take_snoc l j h, List.map_append, List.map_append]; rfl
theorem cb_no {p : Cn × Bool} (h : p = noCn) : V.tup [.agg [iv 0, iv 0, .d (.sl [])], .d (.bool false)] = cb p := by rw [h]; rfl
theorem linTight_c (x : Cn) (hx : x.ok) : PFun Try.prog 18 [x.v] [] (cb (tightS x)) [] := by
  refine fn_sem pok 105 0 Try.func18 (by kernel_rfl) rfl rfl rfl rfl ?_
  refine SWp.go pok (by kernel_rfl) ?_
  refine SWp.scope 0 rfl (fun _ : Unit => tightS x = noCn) (fun _ => ([(2, .ptr 0 0)], [.box [iv 0, iv 0, .fsl []]])) (fun _ => 0) ?_ (fun p hp => ?_)
  rotate_left
  · refine SWp.go pok (by kernel_rfl) ?_
    exact fin1 (cb_no hp)
  refine SWp.go pok (by kernel_rfl) ?_
  have none : tightS x = noCn → ∀ ρ H, Le 0 [(2, .ptr 0 0)] [.box [iv 0, iv 0, .fsl []]] ρ H → ∃ _ : Unit, tightS x = noCn ∧ Le 0 [(2, .ptr 0 0)] [.box [iv 0, iv 0, .fsl []]] ρ H := fun h _ _ k => ⟨(), h, k⟩
  refine brP_split (fun h => ?_) (fun h => ?_)
  · exact none (tight_no (.inl (by simpa using h))) _ _ (.inr ⟨[1], ⟨rfl, rfl⟩, rfl, rfl, trivial⟩)
  refine brP_split (fun h' => ?_) (fun h' => ?_)
  · exact none (tight_no (.inr (by simpa using h'))) _ _ (.inr ⟨[1], ⟨rfl, rfl⟩, rfl, rfl, trivial⟩)
  have t0 : ¬ (x.rel < 1 ∨ 3 < x.rel) := by simp at h h'; omega
  refine PFun.call (linIs_c x.s) ?_
  refine brP_split (fun h => ?_) (fun h => ?_)
  · exact none (tight_is (by simpa using h)) _ _ (.inr ⟨[1], ⟨rfl, rfl⟩, rfl, rfl, trivial⟩)
  have t1 : isB x.s.l = true := by simpa using h
  have hlen := isB_len t1
  refine brP_split (fun h => ?_) (fun h => ?_)
  · exact fin1 (by rw [tight_nil t0 t1 (by simpa using h)]; rfl)
  have t2 : ¬ x.s.l.length = 0 := by simpa using h
  refine PFun.call (divisor_c x.s hx.2 (by omega)) ?_
  refine brP_split (fun h => ?_) (fun h => ?_)
  · exact none (tight_g t2 (by simpa using h)) _ _ (.inr ⟨[1], ⟨rfl, rfl⟩, rfl, rfl, trivial⟩)
  have t3 : ¬ gcdL (x.s.l.map (·.c)) = 0 := by simpa using h
  obtain ⟨g, hg⟩ : ∃ g, gcdL (x.s.l.map (·.c)) = g := ⟨_, rfl⟩
  have hgp : 0 < g := by have := gcdL_nonneg (x.s.l.map (·.c)); omega
  have hg0 : g ≠ 0 := by omega
  refine PFun.call (numNeg_c x.s.k hx.2.1) ?_
  refine brP_split (fun h4 => ?_) (fun h4 => ?_)
  · have t4 : x.rel = 1 := by simpa using h4
    refine brP_split (fun h5 => ?_) (fun h5 => ?_)
    · exact none (tight_r1n t0 t1 t2 t3 t4 (by simpa using h5)) _ _ (.inr ⟨[1], ⟨rfl, rfl⟩, rfl, rfl, trivial⟩)
    have t5 : (negS x.s.k).2 = true := by simpa using h5
    refine brP_true (by simpa using t4) ?_
    obtain ⟨n1, n2⟩ := negdiv_r hx.2.1 hgp t5
    rw [hg]
    refine PFun.call (numDiv_c (negS x.s.k).1 g n1) ?_
    have hK : IntKind.i64.wrap (0 - divS (negS x.s.k).1 g) = -(divS (negS x.s.k).1 g) := (congrArg _ (Int.zero_sub _)).trans (wrap_in n2)
    refine SWp.tipBox 2 2 2 rfl rfl ?_
    refine SWp.loop (fun p : Nat × List (List D) => p.1 ≤ x.s.l.length ∧ p.2 = (divT g (x.s.l.take p.1)).map Tm.e)
      (fun p => ([(1, .ptr 0 0), (2, .ptr 1 0), (4, .ptr 2 0), (5, iv g), (82, .d (.sl (x.s.l.map Tm.e))), (83, iv (x.s.l.map Tm.e).length), (84, iv p.1)], [.box [.d (.int .i64 x.rel), .d (.int .i64 x.s.k), .d (.sl (x.s.l.map Tm.e))], .box [iv 0, iv 0, .fsl []], .box [iv x.rel, iv (IntKind.i64.wrap (0 - divS (negS x.s.k).1 g)), .gsl p.2 3], .tip 2 p.2.length]))
      (fun p => x.s.l.length - p.1) (0, []) ⟨Nat.zero_le _, by simp [divT]⟩ (Le.same ⟨rfl, rfl, rfl, rfl, rfl, rfl, rfl, trivial⟩) (fun p hp => ?_)
    obtain ⟨j, rows⟩ := p
    obtain ⟨hj, hs⟩ := hp
    simp only at hj hs
    subst hs
    refine SWp.go pok (by kernel_rfl) ?_
    refine brP_split (fun h => ?_) (fun h => ?_)
    · have hlt : j < x.s.l.length := by simpa using h
      refine PIdx.map (get_at hlt) ?_
      refine ⟨hg0, ?_⟩
      refine ⟨⟨rfl, RL_map _, RL_one rfl, by simp [divT]; omega⟩, ?_⟩
      exact ⟨(j + 1, (divT g (x.s.l.take j)).map Tm.e ++ [[.int .i64 x.s.l[j].var, .int .i64 (IntKind.i64.wrap (x.s.l[j].c.tdiv g))]]), ⟨hlt, by rw [wrap_in (div_down (lin_at hx.2 hlt).2 hgp).1]; exact (divT_snoc g hlt).symm⟩, by show x.s.l.length - (j + 1) < x.s.l.length - j; omega, .inr ⟨[0, 1, 2, 3], ⟨rfl, rfl⟩, rfl, rfl, rfl, rfl, rfl, rfl, rfl, sint (wrap_nat j (by omega)), trivial⟩⟩
    · have hk : j = x.s.l.length := by simp at h; omega
      refine fin1 ?_
      rw [tight_r1 t0 t1 t2 t3 t4 t5, hg, hk, List.take_length, ← t4, ← hK]; rfl
  · have t4 : ¬ x.rel = 1 := by simpa using h4
    refine brP_false (by simpa using t4) ?_
    rw [hg]
    refine ⟨hg0, ?_⟩
    refine brP_split (fun h5 => ?_) (fun h5 => ?_)
    · exact fin1 (by rw [tight_r2n t0 t1 t2 t3 t4 (by rw [hg]; simpa using h5)]; rfl)
    have t5 : x.s.k.tmod (gcdL (x.s.l.map (·.c))) = 0 := by rw [hg]; simpa using h5
    refine ⟨hg0, ?_⟩
    have hK : IntKind.i64.wrap (x.s.k.tdiv g) = x.s.k.tdiv g := wrap_in (div_down hx.2.1 hgp).1
    refine SWp.tipBox 2 2 2 rfl rfl ?_
    refine SWp.loop (fun p : Nat × List (List D) => p.1 ≤ x.s.l.length ∧ p.2 = (divT g (x.s.l.take p.1)).map Tm.e)
      (fun p => ([(1, .ptr 0 0), (2, .ptr 1 0), (4, .ptr 2 0), (5, iv g), (82, .d (.sl (x.s.l.map Tm.e))), (83, iv (x.s.l.map Tm.e).length), (84, iv p.1)], [.box [.d (.int .i64 x.rel), .d (.int .i64 x.s.k), .d (.sl (x.s.l.map Tm.e))], .box [iv 0, iv 0, .fsl []], .box [iv x.rel, iv (IntKind.i64.wrap (x.s.k.tdiv g)), .gsl p.2 3], .tip 2 p.2.length]))
      (fun p => x.s.l.length - p.1) (0, []) ⟨Nat.zero_le _, by simp [divT]⟩ (Le.same ⟨rfl, rfl, rfl, rfl, rfl, rfl, rfl, trivial⟩) (fun p hp => ?_)
    obtain ⟨j, rows⟩ := p
    obtain ⟨hj, hs⟩ := hp
    simp only at hj hs
    subst hs
    refine SWp.go pok (by kernel_rfl) ?_
    refine brP_split (fun h => ?_) (fun h => ?_)
    · have hlt : j < x.s.l.length := by simpa using h
      refine PIdx.map (get_at hlt) ?_
      refine ⟨hg0, ?_⟩
      refine ⟨⟨rfl, RL_map _, RL_one rfl, by simp [divT]; omega⟩, ?_⟩
      exact ⟨(j + 1, (divT g (x.s.l.take j)).map Tm.e ++ [[.int .i64 x.s.l[j].var, .int .i64 (IntKind.i64.wrap (x.s.l[j].c.tdiv g))]]), ⟨hlt, by rw [wrap_in (div_down (lin_at hx.2 hlt).2 hgp).1]; exact (divT_snoc g hlt).symm⟩, by show x.s.l.length - (j + 1) < x.s.l.length - j; omega, .inr ⟨[0, 1, 2, 3], ⟨rfl, rfl⟩, rfl, rfl, rfl, rfl, rfl, rfl, rfl, sint (wrap_nat j (by omega)), trivial⟩⟩
    · have hk : j = x.s.l.length := by simp at h; omega
      refine fin1 ?_
      rw [tight_r2 t0 t1 t2 t3 t4 t5, hg, hk, List.take_length, hK]; rfl
end Go.Proofs.Ytlafnhpmhflnaaa.Q

namespace Go.Proofs.Ytlafnhpmhflnaaa.Q
open Go.RowKit
variable [Amb]
theorem sameT_not {a b : List Tm} {k : Nat} (h : k < a.length) (h2 : k < b.length) (e : tmEq a[k] b[k] = false) : sameT (a.drop k) (b.drop k) = false := by rw [sameT_at _ _ _ h h2, e]; rfl
theorem Same_c (x y : Ln) (hl : x.l.length < 1073741824) : PFun Try.prog 14 [x.v, y.v] [] (.d (.bool (sameS x y))) [] := by
  refine fn_sem pok 38 0 Try.func14 (by kernel_rfl) rfl rfl rfl rfl ?_
  refine SWp.go pok (by kernel_rfl) ?_
  refine brP_split (fun h => ?_) (fun h => ?_)
  · exact fin1 (dbool (by unfold sameS; have : (x.k == y.k) = false := by simpa using h
                          rw [this]; rfl))
  have h1 : (x.k == y.k) = true := by simpa using h
  refine brP_split (fun h => ?_) (fun h => ?_)
  · exact fin1 (dbool (by unfold sameS; have : (x.l.length == y.l.length) = false := by simp at h; simp; omega
                          rw [this, h1]; rfl))
  have h2 : x.l.length = y.l.length := by simp at h; omega
  have hs : sameS x y = sameT x.l y.l := by unfold sameS; rw [h1, h2]; simp
  refine SWp.loop (fun k : Nat => k ≤ x.l.length ∧ sameT (x.l.drop k) (y.l.drop k) = sameS x y)
    (fun k => ([(2, .ptr 0 0), (3, .ptr 1 0), (5, iv k)], [.box [.d (.int .i64 x.k), .d (.sl (x.l.map Tm.e))], .box [.d (.int .i64 y.k), .d (.sl (y.l.map Tm.e))]]))
    (fun k => x.l.length - k) 0 ⟨Nat.zero_le _, hs.symm⟩ (Le.same ⟨rfl, rfl, rfl, trivial⟩) (fun k hk => ?_)
  obtain ⟨hj, hk⟩ := hk
  refine SWp.go pok (by kernel_rfl) ?_
  refine brP_split (fun h => ?_) (fun h => ?_)
  · have hlt : k < x.l.length := by simpa using h
    have hlt2 : k < y.l.length := by omega
    refine PIdx.map (get_at hlt) ?_
    refine PIdx.map (get_at hlt2) ?_
    refine brP_split (fun h3 => ?_) (fun h3 => ?_)
    · exact fin1 (dbool (by rw [← hk]; refine (sameT_not hlt hlt2 ?_).symm; have e3 := (Bool.not_eq_true' _).mp h3; rw [Bool.and_true] at e3; exact e3))
    · have e : tmEq x.l[k] y.l[k] = true := by unfold tmEq; simpa using h3
      exact ⟨k + 1, ⟨hlt, by rw [← hk, sameT_at _ _ _ hlt hlt2, e]; rfl⟩, by omega, Le.same ⟨rfl, rfl, sint (wrap_nat k (by omega)), trivial⟩⟩
  · have hk' : k = x.l.length := by simp at h; omega
    exact fin1 (dbool (by rw [← hk, drop_nil hk']; rfl))
theorem refScale_c (x : Ln) (k : Int) (hx : x.ok) (hk : R64 k) : PFun Try.prog 25 [x.v, iv k] [] (lb (scaleS x k)) [] := by
  refine fn_sem pok 66 0 Try.func25 (by kernel_rfl) rfl rfl rfl rfl ?_
  refine SWp.go pok (by kernel_rfl) ?_
  refine PFun.call (refMul_c x.k k hx.1 hk) ?_
  refine brP_split (fun h => ?_) (fun h => ?_)
  · exact fin1 (by rw [scale_no1 (by simpa using h)]; rfl)
  have h1 : (mulS x.k k).2 = true := by simpa using h
  refine PFun.call (refIs_c x) ?_
  refine brP_split (fun h => ?_) (fun h => ?_)
  · exact fin1 (by rw [scale_no2 (by simpa using h)]; rfl)
  have h2 : isB x.l = true := by simpa using h
  have hlen := isB_len h2
  refine SWp.tipBox 2 1 2 rfl rfl ?_
  refine SWp.loop (fun p : Nat × List (List D) => ∃ acc : List Tm, p.2 = acc.map Tm.e ∧ p.1 ≤ x.l.length ∧ acc.length ≤ p.1 ∧ (scaleT k (x.l.drop p.1)).map (acc ++ ·) = scaleT k x.l)
    (fun p => ([(1, iv k), (2, .ptr 0 0), (4, .ptr 1 0), (8, .ptr 2 0), (9, iv p.1)], [.box [.d (.int .i64 x.k), .d (.sl (x.l.map Tm.e))], .box [iv 0, .fsl []], .box [iv (mulS x.k k).1, .gsl p.2 3], .tip 2 p.2.length]))
    (fun p => x.l.length - p.1) (0, []) ⟨[], rfl, Nat.zero_le _, Nat.le_refl _, by show (scaleT k x.l).map _ = scaleT k x.l; cases scaleT k x.l <;> simp⟩ (Le.same ⟨rfl, rfl, rfl, rfl, rfl, trivial⟩) (fun p hp => ?_)
  obtain ⟨j, rows⟩ := p
  obtain ⟨acc, hr, hj, hac, hs⟩ := hp
  simp only at hr hj hac hs
  subst hr
  refine SWp.go pok (by kernel_rfl) ?_
  refine brP_split (fun h => ?_) (fun h => ?_)
  · have hlt : j < x.l.length := by simpa using h
    have hat := scaleT_at k x.l j hlt
    refine PIdx.map (get_at hlt) ?_
    refine PFun.call (refMul_c x.l[j].c k (lin_at hx hlt).2 hk) ?_
    refine brP_split (fun h3 => ?_) (fun h3 => ?_)
    · refine fin1 ?_
      rw [scale_no3 (by rw [← hs, hat, if_neg (by simpa using h3)]; rfl)]; rfl
    · rw [if_pos (by simpa using h3)] at hat
      refine brP_split (fun h4 => ?_) (fun h4 => ?_)
      · have h4' : ¬ (mulS x.l[j].c k).1 = 0 := by simpa using h4
        refine PIdx.map (get_at hlt) ?_
        refine ⟨⟨rfl, RL_map acc, RL_one rfl, by simp; omega⟩, ?_⟩
        refine ⟨(j + 1, acc.map Tm.e ++ [Tm.e ⟨x.l[j].var, (mulS x.l[j].c k).1⟩]), ⟨acc ++ [⟨x.l[j].var, (mulS x.l[j].c k).1⟩], by simp, hlt, by simp; omega, ?_⟩, by show x.l.length - (j + 1) < x.l.length - j; omega, .inr ⟨[0, 1, 2, 3], ⟨rfl, rfl⟩, rfl, rfl, rfl, rfl, rfl, sint (wrap_nat j (by omega)), trivial⟩⟩
        rw [← hs, hat, ← opt_app]; simp only [if_neg h4']
      · have h4' : (mulS x.l[j].c k).1 = 0 := by simpa using h4
        refine ⟨(j + 1, acc.map Tm.e), ⟨acc, rfl, hlt, by show acc.length ≤ j + 1; omega, ?_⟩, by show x.l.length - (j + 1) < x.l.length - j; omega, .inr ⟨[0, 1, 2, 3], ⟨rfl, rfl⟩, rfl, rfl, rfl, rfl, rfl, sint (wrap_nat j (by omega)), trivial⟩⟩
        rw [← hs, hat]; simp only [if_pos h4', Option.map_id']
  · have hk : j = x.l.length := by simp at h; omega
    refine fin1 ?_
    rw [drop_nil hk] at hs
    rw [scale_yes h1 h2 hs.symm]
    simp [lb, Ln.v]
theorem RL_ic (l : List Tm) : RL (l.map fun t => ic t.c) 1 := fun r hr => by obtain ⟨t, _, rfl⟩ := List.mem_map.1 hr; rfl
theorem refTight_c (x : Cn) (hx : x.ok) : PFun Try.prog 19 [x.v] [] (cb (tightS x)) [] := by
  refine fn_sem pok 132 0 Try.func19 (by kernel_rfl) rfl rfl rfl rfl ?_
  refine SWp.go pok (by kernel_rfl) ?_
  refine brP_split (fun h => ?_) (fun h => ?_)
  · exact fin1 (cb_no (tight_no (.inl (by simpa using h))))
  refine brP_split (fun h' => ?_) (fun h' => ?_)
  · exact fin1 (cb_no (tight_no (.inr (by simpa using h'))))
  have t0 : ¬ (x.rel < 1 ∨ 3 < x.rel) := by simp at h h'; omega
  refine PFun.call (refIs_c x.s) ?_
  refine brP_split (fun h => ?_) (fun h => ?_)
  · exact fin1 (cb_no (tight_is (by simpa using h)))
  have t1 : isB x.s.l = true := by simpa using h
  have hlen := isB_len t1
  refine brP_split (fun h => ?_) (fun h => ?_)
  · exact fin1 (by rw [tight_nil t0 t1 (by simpa using h)]; rfl)
  have t2 : ¬ x.s.l.length = 0 := by simpa using h
  refine SWp.tipSlot 4 1 rfl ?_
  refine SWp.loop (fun p : Nat × List (List D) => p.1 ≤ x.s.l.length ∧ p.2 = (x.s.l.take p.1).map (fun t => ic t.c))
    (fun p => ([(1, .ptr 0 0), (2, .ptr 1 0), (4, .gsl p.2 2), (5, iv p.1)], [.box [.d (.int .i64 x.rel), .d (.int .i64 x.s.k), .d (.sl (x.s.l.map Tm.e))], .box [iv 0, iv 0, .fsl []], .tip 1 p.2.length]))
    (fun p => x.s.l.length - p.1) (0, []) ⟨Nat.zero_le _, rfl⟩ (Le.same ⟨rfl, rfl, rfl, rfl, trivial⟩) (fun p hp => ?_)
  obtain ⟨j, rows⟩ := p
  obtain ⟨hj, hs⟩ := hp
  simp only at hj hs
  subst hs
  refine SWp.go pok (by kernel_rfl) ?_
  refine brP_split (fun h => ?_) (fun h => ?_)
  · have hlt : j < x.s.l.length := by simpa using h
    refine PIdx.map (get_at hlt) ?_
    refine ⟨⟨rfl, RL_ic _, RL_one rfl, by simp; omega⟩, ?_⟩
    exact ⟨(j + 1, (x.s.l.take j).map (fun t => ic t.c) ++ [ic x.s.l[j].c]), ⟨hlt, by rw [take_snoc _ _ hlt, List.map_append]; rfl⟩, by show x.s.l.length - (j + 1) < x.s.l.length - j; omega, .inr ⟨[0, 1, 2], ⟨rfl, rfl⟩, rfl, rfl, rfl, rfl, sint (wrap_nat j (by omega)), trivial⟩⟩
  have hj' : j = x.s.l.length := by simp at h; omega
  have hc := refGcd_c (x.s.l.map (·.c)) (by simp; omega) (cs_r hx.2)
  rw [show ils (x.s.l.map (·.c)) = .d (.sl ((x.s.l.take j).map (fun t => ic t.c))) by rw [hj', List.take_length]; simp [List.map_map]] at hc
  refine PFun.call hc ?_
  obtain ⟨g, hg⟩ : ∃ g, gcdL (x.s.l.map (·.c)) = g := ⟨_, rfl⟩
  refine PFun.call (refNeg_c x.s.k hx.2.1) ?_
  refine brP_split (fun h => ?_) (fun h => ?_)
  · exact fin1 (cb_no (tight_g t2 (by simpa using h)))
  have t3 : ¬ gcdL (x.s.l.map (·.c)) = 0 := by simpa using h
  have hgp : 0 < g := by have := gcdL_nonneg (x.s.l.map (·.c)); omega
  have hg0 : g ≠ 0 := by omega
  refine brP_split (fun h4 => ?_) (fun h4 => ?_)
  · have t4 : x.rel = 1 := by simpa using h4
    refine brP_split (fun h5 => ?_) (fun h5 => ?_)
    · exact fin1 (cb_no (tight_r1n t0 t1 t2 t3 t4 (by simpa using h5)))
    have t5 : (negS x.s.k).2 = true := by simpa using h5
    refine brP_true (by simpa using t4) ?_
    obtain ⟨n1, n2⟩ := negdiv_r hx.2.1 hgp t5
    have hK : IntKind.i64.wrap (0 - divS (negS x.s.k).1 g) = -(divS (negS x.s.k).1 g) := (congrArg _ (Int.zero_sub _)).trans (wrap_in n2)
    rw [hg]
    refine PFun.call (refDiv_c (negS x.s.k).1 g n1) ?_
    refine SWp.tipBox 3 2 2 rfl rfl ?_
    refine SWp.loop (fun p : Nat × List (List D) => p.1 ≤ x.s.l.length ∧ p.2 = (divT g (x.s.l.take p.1)).map Tm.e)
      (fun p => ([(1, .ptr 0 0), (2, .ptr 1 0), (6, iv g), (9, .ptr 2 0), (10, iv p.1)], [.box [.d (.int .i64 x.rel), .d (.int .i64 x.s.k), .d (.sl (x.s.l.map Tm.e))], .box [iv 0, iv 0, .fsl []], .box [iv x.rel, iv (IntKind.i64.wrap (0 - divS (negS x.s.k).1 g)), .gsl p.2 3], .tip 2 p.2.length]))
      (fun p => x.s.l.length - p.1) (0, []) ⟨Nat.zero_le _, by simp [divT]⟩ (.inr ⟨[0, 1, 3, 4], ⟨rfl, rfl⟩, rfl, rfl, rfl, rfl, rfl, rfl, trivial⟩) (fun p hp => ?_)
    obtain ⟨j, rows⟩ := p
    obtain ⟨hj, hs⟩ := hp
    simp only at hj hs
    subst hs
    refine SWp.go pok (by kernel_rfl) ?_
    refine brP_split (fun h => ?_) (fun h => ?_)
    · have hlt : j < x.s.l.length := by simpa using h
      refine PIdx.map (get_at hlt) ?_
      refine PIdx.map (get_at hlt) ?_
      refine ⟨hg0, ?_⟩
      refine ⟨⟨rfl, RL_map _, RL_one rfl, by simp [divT]; omega⟩, ?_⟩
      exact ⟨(j + 1, (divT g (x.s.l.take j)).map Tm.e ++ [[.int .i64 x.s.l[j].var, .int .i64 (IntKind.i64.wrap (x.s.l[j].c.tdiv g))]]), ⟨hlt, by rw [wrap_in (div_down (lin_at hx.2 hlt).2 hgp).1]; exact (divT_snoc g hlt).symm⟩, by show x.s.l.length - (j + 1) < x.s.l.length - j; omega, .inr ⟨[0, 1, 2, 3], ⟨rfl, rfl⟩, rfl, rfl, rfl, rfl, rfl, sint (wrap_nat j (by omega)), trivial⟩⟩
    · have hk : j = x.s.l.length := by simp at h; omega
      refine fin1 ?_
      rw [tight_r1 t0 t1 t2 t3 t4 t5, hg, hk, List.take_length, ← t4, ← hK]; rfl
  · have t4 : ¬ x.rel = 1 := by simpa using h4
    refine brP_false (by simpa using t4) ?_
    have hK : IntKind.i64.wrap (x.s.k.tdiv g) = x.s.k.tdiv g := wrap_in (div_down hx.2.1 hgp).1
    rw [hg]
    refine ⟨hg0, ?_⟩
    refine brP_split (fun h5 => ?_) (fun h5 => ?_)
    · exact fin1 (by rw [tight_r2n t0 t1 t2 t3 t4 (by rw [hg]; simpa using h5)]; rfl)
    have t5 : x.s.k.tmod (gcdL (x.s.l.map (·.c))) = 0 := by rw [hg]; simpa using h5
    refine ⟨hg0, ?_⟩
    refine SWp.tipBox 3 2 2 rfl rfl ?_
    refine SWp.loop (fun p : Nat × List (List D) => p.1 ≤ x.s.l.length ∧ p.2 = (divT g (x.s.l.take p.1)).map Tm.e)
      (fun p => ([(1, .ptr 0 0), (2, .ptr 1 0), (6, iv g), (9, .ptr 2 0), (10, iv p.1)], [.box [.d (.int .i64 x.rel), .d (.int .i64 x.s.k), .d (.sl (x.s.l.map Tm.e))], .box [iv 0, iv 0, .fsl []], .box [iv x.rel, iv (IntKind.i64.wrap (x.s.k.tdiv g)), .gsl p.2 3], .tip 2 p.2.length]))
      (fun p => x.s.l.length - p.1) (0, []) ⟨Nat.zero_le _, by simp [divT]⟩ (.inr ⟨[0, 1, 3, 4], ⟨rfl, rfl⟩, rfl, rfl, rfl, rfl, rfl, rfl, trivial⟩) (fun p hp => ?_)
    obtain ⟨j, rows⟩ := p
    obtain ⟨hj, hs⟩ := hp
    simp only at hj hs
    subst hs
    refine SWp.go pok (by kernel_rfl) ?_
    refine brP_split (fun h => ?_) (fun h => ?_)
    · have hlt : j < x.s.l.length := by simpa using h
      refine PIdx.map (get_at hlt) ?_
      refine PIdx.map (get_at hlt) ?_
      refine ⟨hg0, ?_⟩
      refine ⟨⟨rfl, RL_map _, RL_one rfl, by simp [divT]; omega⟩, ?_⟩
      exact ⟨(j + 1, (divT g (x.s.l.take j)).map Tm.e ++ [[.int .i64 x.s.l[j].var, .int .i64 (IntKind.i64.wrap (x.s.l[j].c.tdiv g))]]), ⟨hlt, by rw [wrap_in (div_down (lin_at hx.2 hlt).2 hgp).1]; exact (divT_snoc g hlt).symm⟩, by show x.s.l.length - (j + 1) < x.s.l.length - j; omega, .inr ⟨[0, 1, 2, 3], ⟨rfl, rfl⟩, rfl, rfl, rfl, rfl, rfl, sint (wrap_nat j (by omega)), trivial⟩⟩
    · have hk : j = x.s.l.length := by simp at h; omega
      refine fin1 ?_
      rw [tight_r2 t0 t1 t2 t3 t4 t5, hg, hk, List.take_length, hK]; rfl
end Go.Proofs.Ytlafnhpmhflnaaa.Q

namespace Go.Proofs.Ytlafnhpmhflnaaa.Q
open Go.RowKit
variable [Amb]
theorem con_yes {t : Tm} {acc : List Tm} {l : Option (List Tm)} (h : ¬ t.c = 0) : (l.map (con t)).map (acc ++ ·) = l.map (acc ++ [t] ++ ·) := by
  cases l with
  | none => rfl
  | some r => simp [con, h]
theorem con_no {t : Tm} {acc : List Tm} {l : Option (List Tm)} (h : t.c = 0) : (l.map (con t)).map (acc ++ ·) = l.map (acc ++ ·) := by
  cases l with
  | none => rfl
  | some r => simp [con, h]
theorem lb_no {p : Ln × Bool} (h : p = noLn) : V.tup [.agg [iv 0, .d (.sl [])], .d (.bool false)] = lb p := by rw [h]; rfl
theorem linAdd_c (x y : Ln) (hx : x.ok) (hy : y.ok) : PFun Try.prog 22 [x.v, y.v] [] (lb (addL x y)) [] := by
  refine fn_sem pok 126 0 Try.func22 (by kernel_rfl) rfl rfl rfl rfl ?_
  refine SWp.go pok (by kernel_rfl) ?_
  refine SWp.scope0 ?_
  refine SWp.go pok (by kernel_rfl) ?_
  refine PFun.call (linIs_c x) ?_
  refine brP_split (fun h => ?_) (fun h => ?_)
  · exact fin1 (lb_no (add_no1 (by simpa using h)))
  have h1 : isB x.l = true := by simpa using h
  have l1 := isB_len h1
  refine PFun.call (linIs_c y) ?_
  refine brP_split (fun h => ?_) (fun h => ?_)
  · exact fin1 (lb_no (add_no2 (by simpa using h)))
  have h2 : isB y.l = true := by simpa using h
  have l2 := isB_len h2
  refine PFun.call (numAdd_c x.k y.k hx.1 hy.1) ?_
  refine brP_split (fun h => ?_) (fun h => ?_)
  · exact fin1 (lb_no (add_no3 (by simpa using h)))
  have h3 : (addS x.k y.k).2 = true := by simpa using h
  refine SWp.tipBox 2 1 2 rfl rfl ?_
  refine SWp.loop (fun p : List Tm × List Tm × List (List D) => ∃ acc : List Tm, p.2.2 = acc.map Tm.e ∧ (∀ t ∈ p.1, t.ok) ∧ (∀ t ∈ p.2.1, t.ok) ∧ acc.length + p.1.length + p.2.1.length ≤ 80 ∧ (addT p.1 p.2.1).map (acc ++ ·) = addT x.l y.l)
    (fun p => ([(4, .ptr 0 0), (6, .d (.sl (p.1.map Tm.e))), (7, .d (.sl (p.2.1.map Tm.e)))], [.box [iv (addS x.k y.k).1, .gsl p.2.2 1], .tip 2 p.2.2.length]))
    (fun p => p.1.length + p.2.1.length) (x.l, y.l, []) ⟨[], rfl, hx.2, hy.2, by show 0 + x.l.length + y.l.length ≤ 80; omega, by show (addT x.l y.l).map _ = _; cases addT x.l y.l <;> simp⟩ (.inr ⟨[2, 3], ⟨rfl, rfl⟩, rfl, rfl, rfl, rfl, trivial⟩) (fun p hp => ?_)
  obtain ⟨xs, ys, rows⟩ := p
  obtain ⟨acc, hr, ox, oy, hlen, hs⟩ := hp
  simp only at hr ox oy hlen hs
  subst hr
  refine SWp.go pok (by kernel_rfl) ?_
  match xs, ys with
  | [], [] =>
    have e0 : addT x.l y.l = some acc := by rw [← hs]; simp [addT]
    refine brP_split (fun h => ?_) (fun h => ?_)
    · exact fin1 (lb_no (add_no4 h1 h2 h3 e0 (by simp at h; omega)))
    · exact fin1 (by rw [add_yes h1 h2 h3 e0 (by simp at h; omega)]; rfl)
  | t :: xs, [] =>
    refine PIdx.map' (i := 0) rfl (x := t) rfl ?_
    refine ⟨⟨by decide, by simp; omega⟩, RL_map (t :: xs), ?_⟩
    refine brP_split (fun h9 => ?_) (fun h9 => ?_)
    · have h9' : ¬ t.c = 0 := by simpa using h9
      refine ⟨⟨rfl, RL_map acc, RL_one rfl, by simp; simp at hlen; omega⟩, ?_⟩
      refine ⟨(xs, ([] : List Tm), acc.map Tm.e ++ [Tm.e t]), ⟨acc ++ [t], by simp, fun q hq => ox q (by simp [hq]), oy, by simp at hlen ⊢; omega, ?_⟩, by show xs.length + 0 < xs.length + 1 + 0; omega, .inr ⟨[0, 1], ⟨rfl, rfl⟩, rfl, rfl, rfl, rfl, trivial⟩⟩
      rw [← hs, addT_xn, con_yes (t := t) h9']
    · have h9' : t.c = 0 := by simpa using h9
      refine ⟨(xs, ([] : List Tm), acc.map Tm.e), ⟨acc, rfl, fun q hq => ox q (by simp [hq]), oy, by simp at hlen ⊢; omega, ?_⟩, by show xs.length + 0 < xs.length + 1 + 0; omega, .inr ⟨[0, 1], ⟨rfl, rfl⟩, rfl, rfl, rfl, rfl, trivial⟩⟩
      rw [← hs, addT_xn, con_no (t := t) h9']
  | [], u :: ys =>
    refine PIdx.map' (i := 0) rfl (x := u) rfl ?_
    refine ⟨⟨by decide, by simp; omega⟩, RL_map (u :: ys), ?_⟩
    refine brP_split (fun h9 => ?_) (fun h9 => ?_)
    · have h9' : ¬ u.c = 0 := by simpa using h9
      refine ⟨⟨rfl, RL_map acc, RL_one rfl, by simp; simp at hlen; omega⟩, ?_⟩
      refine ⟨(([] : List Tm), ys, acc.map Tm.e ++ [Tm.e u]), ⟨acc ++ [u], by simp, ox, fun q hq => oy q (by simp [hq]), by simp at hlen ⊢; omega, ?_⟩, by show 0 + ys.length < 0 + (ys.length + 1); omega, .inr ⟨[0, 1], ⟨rfl, rfl⟩, rfl, rfl, rfl, rfl, trivial⟩⟩
      rw [← hs, addT_ny, con_yes (t := u) h9']
    · have h9' : u.c = 0 := by simpa using h9
      refine ⟨(([] : List Tm), ys, acc.map Tm.e), ⟨acc, rfl, ox, fun q hq => oy q (by simp [hq]), by simp at hlen ⊢; omega, ?_⟩, by show 0 + ys.length < 0 + (ys.length + 1); omega, .inr ⟨[0, 1], ⟨rfl, rfl⟩, rfl, rfl, rfl, rfl, trivial⟩⟩
      rw [← hs, addT_ny, con_no (t := u) h9']
  | t :: xs, u :: ys =>
    refine brP_true (by simp) ?_
    refine PIdx.map' (i := 0) rfl (x := t) rfl ?_
    refine PIdx.map' (i := 0) rfl (x := u) rfl ?_
    refine brP_split (fun h4 => ?_) (fun h4 => ?_)
    · have h4' : t.var < u.var := by simpa using h4
      refine PIdx.map' (i := 0) rfl (x := t) rfl ?_
      refine ⟨⟨by decide, by simp; omega⟩, RL_map (t :: xs), ?_⟩
      refine brP_split (fun h9 => ?_) (fun h9 => ?_)
      · have h9' : ¬ t.c = 0 := by simpa using h9
        refine ⟨⟨rfl, RL_map acc, RL_one rfl, by simp; simp at hlen; omega⟩, ?_⟩
        refine ⟨(xs, u :: ys, acc.map Tm.e ++ [Tm.e t]), ⟨acc ++ [t], by simp, fun q hq => ox q (by simp [hq]), oy, by simp at hlen ⊢; omega, ?_⟩, by show xs.length + (ys.length + 1) < xs.length + 1 + (ys.length + 1); omega, .inr ⟨[0, 1], ⟨rfl, rfl⟩, rfl, rfl, rfl, rfl, trivial⟩⟩
        rw [← hs, addT_lt _ _ h4', con_yes (t := t) h9']
      · have h9' : t.c = 0 := by simpa using h9
        refine ⟨(xs, u :: ys, acc.map Tm.e), ⟨acc, rfl, fun q hq => ox q (by simp [hq]), oy, by simp at hlen ⊢; omega, ?_⟩, by show xs.length + (ys.length + 1) < xs.length + 1 + (ys.length + 1); omega, .inr ⟨[0, 1], ⟨rfl, rfl⟩, rfl, rfl, rfl, rfl, trivial⟩⟩
        rw [← hs, addT_lt _ _ h4', con_no (t := t) h9']
    · have h4' : ¬ t.var < u.var := by simpa using h4
      refine PIdx.map' (i := 0) rfl (x := u) rfl ?_
      refine PIdx.map' (i := 0) rfl (x := t) rfl ?_
      refine brP_split (fun h5 => ?_) (fun h5 => ?_)
      · have h5' : u.var < t.var := by simpa using h5
        refine PIdx.map' (i := 0) rfl (x := u) rfl ?_
        refine ⟨⟨by decide, by simp; omega⟩, RL_map (u :: ys), ?_⟩
        refine brP_split (fun h9 => ?_) (fun h9 => ?_)
        · have h9' : ¬ u.c = 0 := by simpa using h9
          refine ⟨⟨rfl, RL_map acc, RL_one rfl, by simp; simp at hlen; omega⟩, ?_⟩
          refine ⟨(t :: xs, ys, acc.map Tm.e ++ [Tm.e u]), ⟨acc ++ [u], by simp, ox, fun q hq => oy q (by simp [hq]), by simp at hlen ⊢; omega, ?_⟩, by show xs.length + 1 + ys.length < xs.length + 1 + (ys.length + 1); omega, .inr ⟨[0, 1], ⟨rfl, rfl⟩, rfl, rfl, rfl, rfl, trivial⟩⟩
          rw [← hs, addT_gt _ _ h5', con_yes (t := u) h9']
        · have h9' : u.c = 0 := by simpa using h9
          refine ⟨(t :: xs, ys, acc.map Tm.e), ⟨acc, rfl, ox, fun q hq => oy q (by simp [hq]), by simp at hlen ⊢; omega, ?_⟩, by show xs.length + 1 + ys.length < xs.length + 1 + (ys.length + 1); omega, .inr ⟨[0, 1], ⟨rfl, rfl⟩, rfl, rfl, rfl, rfl, trivial⟩⟩
          rw [← hs, addT_gt _ _ h5', con_no (t := u) h9']
      · have h5' : ¬ u.var < t.var := by simpa using h5
        refine PIdx.map' (i := 0) rfl (x := t) rfl ?_
        refine PIdx.map' (i := 0) rfl (x := t) rfl ?_
        refine PIdx.map' (i := 0) rfl (x := u) rfl ?_
        refine ⟨_, _, numAdd_c t.c u.c (ox t (by simp)).2 (oy u (by simp)).2, ?_⟩
        refine brP_split (fun h6 => ?_) (fun h6 => ?_)
        · exact fin1 (lb_no (add_none (by rw [← hs, addT_no _ _ h4' h5' (by simpa using h6)]; rfl)))
        have h6' : (addS t.c u.c).2 = true := by simpa using h6
        refine ⟨⟨by decide, by simp; omega⟩, RL_map (t :: xs), ?_⟩
        refine ⟨⟨by decide, by simp; omega⟩, RL_map (u :: ys), ?_⟩
        refine brP_split (fun h9 => ?_) (fun h9 => ?_)
        · have h9' : ¬ (addS t.c u.c).1 = 0 := by simpa using h9
          refine ⟨⟨rfl, RL_map acc, RL_one rfl, by simp; simp at hlen; omega⟩, ?_⟩
          refine ⟨(xs, ys, acc.map Tm.e ++ [Tm.e (⟨t.var, (addS t.c u.c).1⟩ : Tm)]), ⟨acc ++ [(⟨t.var, (addS t.c u.c).1⟩ : Tm)], by simp, fun q hq => ox q (by simp [hq]), fun q hq => oy q (by simp [hq]), by simp at hlen ⊢; omega, ?_⟩, by show xs.length + ys.length < xs.length + 1 + (ys.length + 1); omega, .inr ⟨[0, 1], ⟨rfl, rfl⟩, rfl, rfl, rfl, rfl, trivial⟩⟩
          rw [← hs, addT_eq _ _ h4' h5' h6', con_yes (t := (⟨t.var, (addS t.c u.c).1⟩ : Tm)) h9']
        · have h9' : (addS t.c u.c).1 = 0 := by simpa using h9
          refine ⟨(xs, ys, acc.map Tm.e), ⟨acc, rfl, fun q hq => ox q (by simp [hq]), fun q hq => oy q (by simp [hq]), by simp at hlen ⊢; omega, ?_⟩, by show xs.length + ys.length < xs.length + 1 + (ys.length + 1); omega, .inr ⟨[0, 1], ⟨rfl, rfl⟩, rfl, rfl, rfl, rfl, trivial⟩⟩
          rw [← hs, addT_eq _ _ h4' h5' h6', con_no (t := (⟨t.var, (addS t.c u.c).1⟩ : Tm)) h9']
end Go.Proofs.Ytlafnhpmhflnaaa.Q

namespace Go.Proofs.Ytlafnhpmhflnaaa.Q
open Go.RowKit
variable [Amb]
def ofF (v : Int) : List Tm → Int
  | [] => 0
  | t :: r => if t.var = v then t.c else ofF v r
theorem ofF_at (v : Int) {l : List Tm} {k : Nat} (h : k < l.length) : ofF v (l.drop k) = if l[k].var = v then l[k].c else ofF v (l.drop (k + 1)) := by rw [List.drop_eq_getElem_cons h]; rfl
theorem of_c (x : Ln) (v : Int) (hl : x.l.length < 1073741824) : PFun Try.prog 47 [x.v, iv v] [] (iv (ofF v x.l)) [] := by
  refine fn_sem pok 27 0 Try.func47 (by kernel_rfl) rfl rfl rfl rfl ?_
  refine SWp.go pok (by kernel_rfl) ?_
  refine SWp.loop (fun k : Nat => k ≤ x.l.length ∧ ofF v (x.l.drop k) = ofF v x.l) (fun k => ([(1, iv v), (2, .ptr 0 0), (5, iv k)], [.box [.d (.int .i64 x.k), .d (.sl (x.l.map Tm.e))]])) (fun k => x.l.length - k) 0 ⟨Nat.zero_le _, rfl⟩ (Le.same ⟨rfl, rfl, rfl, trivial⟩) (fun k hk => ?_)
  obtain ⟨hj, hk⟩ := hk
  refine SWp.go pok (by kernel_rfl) ?_
  refine brP_split (fun h => ?_) (fun h => ?_)
  · have hlt : k < x.l.length := by simpa using h
    have hat := ofF_at v hlt
    refine PIdx.map (get_at hlt) ?_
    refine brP_split (fun h3 => ?_) (fun h3 => ?_)
    · refine PIdx.map (get_at hlt) ?_
      exact fin1 (dint (by rw [← hk, hat, if_pos (by simpa using h3)]))
    · exact ⟨k + 1, ⟨hlt, by rw [← hk, hat, if_neg (by simpa using h3)]⟩, by omega, Le.same ⟨rfl, rfl, sint (wrap_nat k (by omega)), trivial⟩⟩
  · have hk' : k = x.l.length := by simp at h; omega
    exact fin1 (dint (by rw [← hk, drop_nil hk']; rfl))
def varsF : List Tm → List Tm → List Int
  | [], [] => []
  | t :: x, [] => t.var :: varsF x []
  | [], u :: y => u.var :: varsF [] y
  | t :: x, u :: y => if t.var = u.var then t.var :: varsF x y else if t.var ≤ u.var then t.var :: varsF x (u :: y) else u.var :: varsF (t :: x) y
  termination_by x y => x.length + y.length
theorem varsF_x {x y : List Tm} {i k : Nat} (hi : i < x.length) (hk : k = y.length) : varsF (x.drop i) (y.drop k) = x[i].var :: varsF (x.drop (i + 1)) (y.drop k) := by
  rw [drop_nil hk, List.drop_eq_getElem_cons hi, varsF]
theorem varsF_y {x y : List Tm} {i k : Nat} (hi : i = x.length) (hk : k < y.length) : varsF (x.drop i) (y.drop k) = y[k].var :: varsF (x.drop i) (y.drop (k + 1)) := by
  rw [drop_nil hi, List.drop_eq_getElem_cons hk, varsF]
theorem varsF_eq {x y : List Tm} {i k : Nat} (hi : i < x.length) (hk : k < y.length) (h : x[i].var = y[k].var) : varsF (x.drop i) (y.drop k) = x[i].var :: varsF (x.drop (i + 1)) (y.drop (k + 1)) := by
  rw [List.drop_eq_getElem_cons hi, List.drop_eq_getElem_cons hk, varsF, if_pos h]
theorem varsF_lt {x y : List Tm} {i k : Nat} (hi : i < x.length) (hk : k < y.length) (h : ¬ x[i].var = y[k].var) (g : x[i].var ≤ y[k].var) : varsF (x.drop i) (y.drop k) = x[i].var :: varsF (x.drop (i + 1)) (y.drop k) := by
  rw [List.drop_eq_getElem_cons hi, List.drop_eq_getElem_cons hk, varsF, if_neg h, if_pos g]
theorem varsF_gt {x y : List Tm} {i k : Nat} (hi : i < x.length) (hk : k < y.length) (g : ¬ x[i].var ≤ y[k].var) : varsF (x.drop i) (y.drop k) = y[k].var :: varsF (x.drop i) (y.drop (k + 1)) := by
  rw [List.drop_eq_getElem_cons hi, List.drop_eq_getElem_cons hk, varsF, if_neg (by omega), if_neg g]
theorem RL_is (l : List Int) : RL (l.map ic) 1 := fun r hr => by obtain ⟨t, _, rfl⟩ := List.mem_map.1 hr; rfl
theorem vars_c (x y : Ln) (hx : x.l.length ≤ 40) (hy : y.l.length ≤ 40) : PFun Try.prog 46 [x.v, y.v] [] (ils (varsF x.l y.l)) [] := by
  refine fn_sem pok 92 0 Try.func46 (by kernel_rfl) rfl rfl rfl rfl ?_
  refine SWp.go pok (by kernel_rfl) ?_
  refine SWp.tipSlot 5 1 rfl ?_
  refine SWp.loop (fun p : Nat × Nat × List (List D) => ∃ acc : List Int, p.2.2 = acc.map ic ∧ p.1 ≤ x.l.length ∧ p.2.1 ≤ y.l.length ∧ acc.length ≤ p.1 + p.2.1 ∧ acc ++ varsF (x.l.drop p.1) (y.l.drop p.2.1) = varsF x.l y.l)
    (fun p => ([(2, .ptr 0 0), (3, .ptr 1 0), (5, .gsl p.2.2 2), (6, iv p.1), (7, iv p.2.1)], [.box [.d (.int .i64 x.k), .d (.sl (x.l.map Tm.e))], .box [.d (.int .i64 y.k), .d (.sl (y.l.map Tm.e))], .tip 1 p.2.2.length]))
    (fun p => (x.l.length - p.1) + (y.l.length - p.2.1)) (0, 0, []) ⟨[], rfl, Nat.zero_le _, Nat.zero_le _, Nat.zero_le _, rfl⟩ (Le.same ⟨rfl, rfl, rfl, rfl, rfl, trivial⟩) (fun p hp => ?_)
  obtain ⟨i, k, rows⟩ := p
  obtain ⟨acc, hr, hi, hk, ha, hs⟩ := hp
  simp only at hr hi hk ha hs
  subst hr
  have wi : IntKind.i64.wrap ((i : Int) + 1) = ((i + 1 : Nat) : Int) := wrap_nat i (by omega)
  have wk : IntKind.i64.wrap ((k : Int) + 1) = ((k + 1 : Nat) : Int) := wrap_nat k (by omega)
  refine SWp.go pok (by kernel_rfl) ?_
  refine brP_split (fun h1 => ?_) (fun h1 => ?_)
  · have hlt : i < x.l.length := by simpa using h1
    refine brP_split (fun h2 => ?_) (fun h2 => ?_)
    · have hke : k = y.l.length := by simp at h2; omega
      refine brP_split (fun h3 => ?_) (fun h3 => ?_)
      · exfalso; simp at h3; omega
      · refine PIdx.map (get_at hlt) ?_
        refine ⟨⟨rfl, RL_is acc, RL_one rfl, by simp; omega⟩, ?_⟩
        exact ⟨(i + 1, k, acc.map ic ++ [ic x.l[i].var]), ⟨acc ++ [x.l[i].var], by simp, by show i + 1 ≤ x.l.length; omega, by show k ≤ y.l.length; omega, by simp; omega, by rw [← hs, varsF_x hlt hke]; simp⟩, by show (x.l.length - (i + 1)) + (y.l.length - (k)) < (x.l.length - i) + (y.l.length - k); omega, .inr ⟨[0, 1, 2], ⟨rfl, rfl⟩, rfl, rfl, rfl, rfl, sint wi, rfl, trivial⟩⟩
    · have hkl : k < y.l.length := by simp at h2; omega
      refine brP_split (fun h3 => ?_) (fun h3 => ?_)
      rotate_left
      · exfalso; simp at h3; omega
      refine PIdx.map (get_at hlt) ?_
      refine PIdx.map (get_at hkl) ?_
      refine brP_split (fun h4 => ?_) (fun h4 => ?_)
      · have h4' : x.l[i].var ≤ y.l[k].var := by simpa using h4
        refine brP_split (fun h3 => ?_) (fun h3 => ?_)
        rotate_left
        · exfalso; simp at h3; omega
        refine PIdx.map (get_at hlt) ?_
        refine PIdx.map (get_at hkl) ?_
        refine brP_split (fun h5 => ?_) (fun h5 => ?_)
        · have h5' : x.l[i].var = y.l[k].var := by simpa using h5
          refine PIdx.map (get_at hlt) ?_
          refine ⟨⟨rfl, RL_is acc, RL_one rfl, by simp; omega⟩, ?_⟩
          exact ⟨(i + 1, k + 1, acc.map ic ++ [ic x.l[i].var]), ⟨acc ++ [x.l[i].var], by simp, by show i + 1 ≤ x.l.length; omega, by show k + 1 ≤ y.l.length; omega, by simp; omega, by rw [← hs, varsF_eq hlt hkl h5']; simp⟩, by show (x.l.length - (i + 1)) + (y.l.length - (k + 1)) < (x.l.length - i) + (y.l.length - k); omega, .inr ⟨[0, 1, 2], ⟨rfl, rfl⟩, rfl, rfl, rfl, rfl, sint wi, sint wk, trivial⟩⟩
        · have h5' : ¬ x.l[i].var = y.l[k].var := by simpa using h5
          refine PIdx.map (get_at hlt) ?_
          refine ⟨⟨rfl, RL_is acc, RL_one rfl, by simp; omega⟩, ?_⟩
          exact ⟨(i + 1, k, acc.map ic ++ [ic x.l[i].var]), ⟨acc ++ [x.l[i].var], by simp, by show i + 1 ≤ x.l.length; omega, by show k ≤ y.l.length; omega, by simp; omega, by rw [← hs, varsF_lt hlt hkl h5' h4']; simp⟩, by show (x.l.length - (i + 1)) + (y.l.length - (k)) < (x.l.length - i) + (y.l.length - k); omega, .inr ⟨[0, 1, 2], ⟨rfl, rfl⟩, rfl, rfl, rfl, rfl, sint wi, rfl, trivial⟩⟩
      · have h4' : ¬ x.l[i].var ≤ y.l[k].var := by simpa using h4
        refine PIdx.map (get_at hkl) ?_
        refine ⟨⟨rfl, RL_is acc, RL_one rfl, by simp; omega⟩, ?_⟩
        exact ⟨(i, k + 1, acc.map ic ++ [ic y.l[k].var]), ⟨acc ++ [y.l[k].var], by simp, by show i ≤ x.l.length; omega, by show k + 1 ≤ y.l.length; omega, by simp; omega, by rw [← hs, varsF_gt hlt hkl h4']; simp⟩, by show (x.l.length - (i)) + (y.l.length - (k + 1)) < (x.l.length - i) + (y.l.length - k); omega, .inr ⟨[0, 1, 2], ⟨rfl, rfl⟩, rfl, rfl, rfl, rfl, rfl, sint wk, trivial⟩⟩
  · have hie : i = x.l.length := by simp at h1; omega
    refine brP_split (fun h2 => ?_) (fun h2 => ?_)
    · have hkl : k < y.l.length := by simpa using h2
      refine brP_split (fun h3 => ?_) (fun h3 => ?_)
      · exfalso; simp at h3; omega
      refine brP_split (fun h3 => ?_) (fun h3 => ?_)
      · exfalso; simp at h3; omega
      refine PIdx.map (get_at hkl) ?_
      refine ⟨⟨rfl, RL_is acc, RL_one rfl, by simp; omega⟩, ?_⟩
      exact ⟨(i, k + 1, acc.map ic ++ [ic y.l[k].var]), ⟨acc ++ [y.l[k].var], by simp, by show i ≤ x.l.length; omega, by show k + 1 ≤ y.l.length; omega, by simp; omega, by rw [← hs, varsF_y hie hkl]; simp⟩, by show (x.l.length - (i)) + (y.l.length - (k + 1)) < (x.l.length - i) + (y.l.length - k); omega, .inr ⟨[0, 1, 2], ⟨rfl, rfl⟩, rfl, rfl, rfl, rfl, rfl, sint wk, trivial⟩⟩
    · have hke : k = y.l.length := by simp at h2; omega
      refine fin1 ?_
      rw [drop_nil hie, drop_nil hke, show varsF [] [] = [] from by rw [varsF]] at hs
      rw [← hs, List.append_nil]
end Go.Proofs.Ytlafnhpmhflnaaa.Q

namespace Go.Proofs.Ytlafnhpmhflnaaa.Q
open Go.RowKit
variable [Amb]
/-- The reference's sum of the terms. -/
def sumT (x y : List Tm) : List Int → Option (List Tm)
  | [] => some []
  | v :: r => if (addS (ofF v x) (ofF v y)).2 = true then (sumT x y r).map (con ⟨v, (addS (ofF v x) (ofF v y)).1⟩) else none
theorem sumT_at (x y : List Tm) {l : List Int} {k : Nat} (h : k < l.length) : sumT x y (l.drop k) = if (addS (ofF l[k] x) (ofF l[k] y)).2 = true then (sumT x y (l.drop (k + 1))).map (con ⟨l[k], (addS (ofF l[k] x) (ofF l[k] y)).1⟩) else none := by
  rw [List.drop_eq_getElem_cons h]; rfl
theorem ofF_r {v : Int} {l : List Tm} (h : ∀ t ∈ l, t.ok) : R64 (ofF v l) := by
  induction l with
  | nil => unfold ofF R64; omega
  | cons t r ih =>
    unfold ofF
    split
    · exact (h t (by simp)).2
    · exact ih fun q hq => h q (by simp [hq])
theorem varsF_len : ∀ (n : Nat) (x y : List Tm), x.length + y.length ≤ n → (varsF x y).length ≤ x.length + y.length
  | n, [], [], _ => by simp [varsF]
  | 0, t :: x, _, h => by simp at h
  | 0, [], u :: y, h => by simp at h
  | n + 1, t :: x, [], h => by rw [varsF]; have := varsF_len n x [] (by simp at h ⊢; omega); simp at this ⊢; omega
  | n + 1, [], u :: y, h => by rw [varsF]; have := varsF_len n [] y (by simp at h ⊢; omega); simp at this ⊢; omega
  | n + 1, t :: x, u :: y, h => by
    rw [varsF]
    split
    · have := varsF_len n x y (by simp at h ⊢; omega); simp at this ⊢; omega
    · split
      · have := varsF_len n x (u :: y) (by simp at h ⊢; omega); simp at this ⊢; omega
      · have := varsF_len n (t :: x) y (by simp at h ⊢; omega); simp at this ⊢; omega
def refAddL (a b : Ln) : Ln × Bool :=
  if isB a.l = true ∧ isB b.l = true ∧ (addS a.k b.k).2 = true then match sumT a.l b.l (varsF a.l b.l) with | some l => if l.length ≤ 40 then (⟨(addS a.k b.k).1, l⟩, true) else noLn | none => noLn else noLn
theorem radd_no1 {x y : Ln} (h : ¬ isB x.l = true) : refAddL x y = noLn := if_neg fun h' => h h'.1
theorem radd_no2 {x y : Ln} (h : ¬ isB y.l = true) : refAddL x y = noLn := if_neg fun h' => h h'.2.1
theorem radd_no3 {x y : Ln} (h : ¬ (addS x.k y.k).2 = true) : refAddL x y = noLn := if_neg fun h' => h h'.2.2
theorem radd_none {x y : Ln} (h : sumT x.l y.l (varsF x.l y.l) = none) : refAddL x y = noLn := by unfold refAddL; split <;> simp [h]
theorem radd_yes {x y : Ln} {l : List Tm} (h1 : isB x.l = true) (h2 : isB y.l = true) (h3 : (addS x.k y.k).2 = true) (h : sumT x.l y.l (varsF x.l y.l) = some l) (hl : l.length ≤ 40) : refAddL x y = (⟨(addS x.k y.k).1, l⟩, true) := by unfold refAddL; rw [if_pos ⟨h1, h2, h3⟩, h]; exact if_pos hl
theorem radd_no4 {x y : Ln} {l : List Tm} (h1 : isB x.l = true) (h2 : isB y.l = true) (h3 : (addS x.k y.k).2 = true) (h : sumT x.l y.l (varsF x.l y.l) = some l) (hl : ¬ l.length ≤ 40) : refAddL x y = noLn := by unfold refAddL; rw [if_pos ⟨h1, h2, h3⟩, h]; exact if_neg hl
theorem refAddL_c (x y : Ln) (hx : x.ok) (hy : y.ok) : PFun Try.prog 23 [x.v, y.v] [] (lb (refAddL x y)) [] := by
  refine fn_sem pok 82 0 Try.func23 (by kernel_rfl) rfl rfl rfl rfl ?_
  refine SWp.go pok (by kernel_rfl) ?_
  refine PFun.call (refIs_c x) ?_
  refine brP_split (fun h => ?_) (fun h => ?_)
  · exact fin1 (lb_no (radd_no1 (by simpa using h)))
  have h1 : isB x.l = true := by simpa using h
  have l1 := isB_len h1
  refine PFun.call (refIs_c y) ?_
  refine brP_split (fun h => ?_) (fun h => ?_)
  · exact fin1 (lb_no (radd_no2 (by simpa using h)))
  have h2 : isB y.l = true := by simpa using h
  have l2 := isB_len h2
  refine PFun.call (refAdd_c x.k y.k hx.1 hy.1) ?_
  refine brP_split (fun h => ?_) (fun h => ?_)
  · exact fin1 (lb_no (radd_no3 (by simpa using h)))
  have h3 : (addS x.k y.k).2 = true := by simpa using h
  have lv := varsF_len _ x.l y.l (Nat.le_refl _)
  have cv := vars_c x y l1 l2
  obtain ⟨vs, hvs⟩ : ∃ vs, varsF x.l y.l = vs := ⟨_, rfl⟩
  rw [hvs] at lv cv
  refine PFun.call cv ?_
  refine SWp.tipBox 3 1 2 rfl rfl ?_
  refine SWp.loop (fun p : Nat × List (List D) => ∃ acc : List Tm, p.2 = acc.map Tm.e ∧ p.1 ≤ vs.length ∧ acc.length ≤ p.1 ∧ (sumT x.l y.l (vs.drop p.1)).map (acc ++ ·) = sumT x.l y.l vs)
    (fun p => ([(2, .ptr 0 0), (3, .ptr 1 0), (4, .ptr 2 0), (8, .ptr 3 0), (9, ils vs), (10, iv p.1)], [.box [.d (.int .i64 x.k), .d (.sl (x.l.map Tm.e))], .box [.d (.int .i64 y.k), .d (.sl (y.l.map Tm.e))], .box [iv 0, .fsl []], .box [iv (addS x.k y.k).1, .gsl p.2 4], .tip 2 p.2.length]))
    (fun p => vs.length - p.1) (0, []) ⟨[], rfl, Nat.zero_le _, Nat.le_refl _, by show (sumT x.l y.l vs).map _ = _; cases sumT x.l y.l vs <;> simp⟩ (Le.same ⟨rfl, rfl, rfl, rfl, rfl, rfl, trivial⟩) (fun p hp => ?_)
  obtain ⟨j, rows⟩ := p
  obtain ⟨acc, hr, hj, hac, hs⟩ := hp
  simp only at hr hj hac hs
  subst hr
  refine SWp.go pok (by kernel_rfl) ?_
  refine brP_split (fun h => ?_) (fun h => ?_)
  · have hlt : j < vs.length := by simpa using h
    have hat := sumT_at x.l y.l hlt
    refine PIdx.map (get_at hlt) ?_
    refine ⟨_, _, of_c x vs[j] (by omega), ?_⟩
    refine PIdx.map (get_at hlt) ?_
    refine ⟨_, _, of_c y vs[j] (by omega), ?_⟩
    refine ⟨_, _, refAdd_c _ _ (ofF_r hx.2) (ofF_r hy.2), ?_⟩
    refine brP_split (fun h4 => ?_) (fun h4 => ?_)
    · exact fin1 (lb_no (radd_none (by rw [hvs, ← hs, hat, if_neg (by simpa using h4)]; rfl)))
    · rw [if_pos (by simpa using h4)] at hat
      refine brP_split (fun h5 => ?_) (fun h5 => ?_)
      · have h5' : ¬ (addS (ofF vs[j] x.l) (ofF vs[j] y.l)).1 = 0 := by simpa using h5
        refine PIdx.map (get_at hlt) ?_
        refine ⟨⟨rfl, RL_map acc, RL_one rfl, by simp; omega⟩, ?_⟩
        refine ⟨(j + 1, acc.map Tm.e ++ [Tm.e ⟨vs[j], (addS (ofF vs[j] x.l) (ofF vs[j] y.l)).1⟩]), ⟨acc ++ [⟨vs[j], (addS (ofF vs[j] x.l) (ofF vs[j] y.l)).1⟩], by simp, hlt, by simp; omega, ?_⟩, by show vs.length - (j + 1) < vs.length - j; omega, .inr ⟨[0, 1, 2, 3, 4], ⟨rfl, rfl⟩, rfl, rfl, rfl, rfl, rfl, rfl, sint (wrap_nat j (by omega)), trivial⟩⟩
        rw [← hs, hat]; exact (con_yes h5').symm
      · have h5' : (addS (ofF vs[j] x.l) (ofF vs[j] y.l)).1 = 0 := by simpa using h5
        refine ⟨(j + 1, acc.map Tm.e), ⟨acc, rfl, hlt, by show acc.length ≤ j + 1; omega, ?_⟩, by show vs.length - (j + 1) < vs.length - j; omega, .inr ⟨[0, 1, 2, 3, 4], ⟨rfl, rfl⟩, rfl, rfl, rfl, rfl, rfl, rfl, sint (wrap_nat j (by omega)), trivial⟩⟩
        rw [← hs, hat]; exact (con_no h5').symm
  · have hk : j = vs.length := by simp at h; omega
    have e0 : sumT x.l y.l (varsF x.l y.l) = some acc := by rw [hvs, ← hs, drop_nil hk]; simp [sumT]
    refine brP_split (fun h => ?_) (fun h => ?_)
    · exact fin1 (lb_no (radd_no4 h1 h2 h3 e0 (by simp at h; omega)))
    · exact fin1 (by rw [radd_yes h1 h2 h3 e0 (by simp at h; omega)]; rfl)
end Go.Proofs.Ytlafnhpmhflnaaa.Q

namespace Go.Proofs.Ytlafnhpmhflnaaa.Q
open Go.RowKit
variable [Amb]
theorem sumT_congr {x x' y y' : List Tm} : ∀ (vs : List Int), (∀ v ∈ vs, ofF v x = ofF v x' ∧ ofF v y = ofF v y') → sumT x y vs = sumT x' y' vs
  | [], _ => rfl
  | v :: r, h => by
    obtain ⟨h1, h2⟩ := h v (by simp)
    unfold sumT
    rw [h1, h2, sumT_congr r fun w hw => h w (by simp [hw])]
theorem mem_varsF : ∀ (n : Nat) (x y : List Tm), x.length + y.length ≤ n → ∀ v ∈ varsF x y, (∃ t ∈ x, t.var = v) ∨ ∃ t ∈ y, t.var = v
  | n, [], [], _, v, h => by rw [varsF] at h; simp at h
  | 0, t :: x, _, h, _, _ => by simp at h
  | 0, [], u :: y, h, _, _ => by simp at h
  | n + 1, t :: x, [], h, v, hv => by
    rw [varsF] at hv
    rcases List.mem_cons.1 hv with e | hv
    · exact .inl ⟨t, by simp, e.symm⟩
    · rcases mem_varsF n x [] (by simp at h ⊢; omega) v hv with ⟨q, h1, h2⟩ | ⟨q, h1, h2⟩
      · exact .inl ⟨q, by simp [h1], h2⟩
      · exact .inr ⟨q, h1, h2⟩
  | n + 1, [], u :: y, h, v, hv => by
    rw [varsF] at hv
    rcases List.mem_cons.1 hv with e | hv
    · exact .inr ⟨u, by simp, e.symm⟩
    · rcases mem_varsF n [] y (by simp at h ⊢; omega) v hv with ⟨q, h1, h2⟩ | ⟨q, h1, h2⟩
      · exact .inl ⟨q, h1, h2⟩
      · exact .inr ⟨q, by simp [h1], h2⟩
  | n + 1, t :: x, u :: y, h, v, hv => by
    rw [varsF] at hv
    split at hv
    · rcases List.mem_cons.1 hv with e | hv
      · exact .inl ⟨t, by simp, e.symm⟩
      · rcases mem_varsF n x y (by simp at h ⊢; omega) v hv with ⟨q, h1, h2⟩ | ⟨q, h1, h2⟩
        · exact .inl ⟨q, by simp [h1], h2⟩
        · exact .inr ⟨q, by simp [h1], h2⟩
    · split at hv
      · rcases List.mem_cons.1 hv with e | hv
        · exact .inl ⟨t, by simp, e.symm⟩
        · rcases mem_varsF n x (u :: y) (by simp at h ⊢; omega) v hv with ⟨q, h1, h2⟩ | ⟨q, h1, h2⟩
          · exact .inl ⟨q, by simp [h1], h2⟩
          · exact .inr ⟨q, h1, h2⟩
      · rcases List.mem_cons.1 hv with e | hv
        · exact .inr ⟨u, by simp, e.symm⟩
        · rcases mem_varsF n (t :: x) y (by simp at h ⊢; omega) v hv with ⟨q, h1, h2⟩ | ⟨q, h1, h2⟩
          · exact .inl ⟨q, h1, h2⟩
          · exact .inr ⟨q, by simp [h1], h2⟩
theorem okFrom_cons {l : Int} {t : Tm} {r : List Tm} (h : okFrom l (t :: r) = true) : l < t.var ∧ okFrom t.var r = true := by
  unfold okFrom at h
  split at h
  · cases h
  · exact ⟨by omega, h⟩
theorem ofF_above {v l : Int} {r : List Tm} (h : okFrom l r = true) (hv : v ≤ l) : ofF v r = 0 := by
  have := okFrom_var h
  clear h
  induction r with
  | nil => rfl
  | cons t r ih =>
    unfold ofF
    rw [if_neg (by have := this t (by simp); omega)]
    exact ih fun q hq => this q (by simp [hq])
theorem ofF_tail {v : Int} {t : Tm} {r : List Tm} (h : t.var < v) : ofF v (t :: r) = ofF v r := by
  unfold ofF; rw [if_neg (by omega)]; cases r <;> rfl
theorem ofF_head {t : Tm} {r : List Tm} : ofF t.var (t :: r) = t.c := by unfold ofF; rw [if_pos rfl]
theorem addS_0r {a : Int} (h : R64 a) : addS a 0 = (a, true) := by unfold addS; rw [Int.add_zero]; exact told_yes h
theorem addS_0l {a : Int} (h : R64 a) : addS 0 a = (a, true) := by unfold addS; rw [Int.zero_add]; exact told_yes h
theorem sum_is_add : ∀ (n : Nat) (x y : List Tm) (lx ly : Int), x.length + y.length ≤ n → okFrom lx x = true → okFrom ly y = true → (∀ t ∈ x, t.ok) → (∀ t ∈ y, t.ok) → sumT x y (varsF x y) = addT x y
  | n, [], [], _, _, _, _, _, _, _ => by rw [varsF, addT]; rfl
  | 0, t :: x, _, _, _, h, _, _, _, _ => by simp at h
  | 0, [], u :: y, _, _, h, _, _, _, _ => by simp at h
  | n + 1, t :: x, [], lx, ly, h, ox, oy, kx, ky => by
    obtain ⟨o1, o2⟩ := okFrom_cons ox
    have ih := sum_is_add n x [] t.var ly (by simp at h ⊢; omega) o2 oy (fun q hq => kx q (by simp [hq])) ky
    rw [varsF, addT_xn, sumT, ofF_head, show ofF t.var [] = 0 from rfl, addS_0r (kx t (by simp)).2, if_pos rfl, ← ih]
    rw [sumT_congr (x' := x) (y' := []) (varsF x []) fun v hv => ⟨?_, rfl⟩]
    rcases mem_varsF _ x [] (Nat.le_refl _) v hv with ⟨q, h1, h2⟩ | ⟨q, h1, h2⟩
    · exact ofF_tail (by have := okFrom_var o2 q h1; omega)
    · simp at h1
  | n + 1, [], u :: y, lx, ly, h, ox, oy, kx, ky => by
    obtain ⟨o1, o2⟩ := okFrom_cons oy
    have ih := sum_is_add n [] y lx u.var (by simp at h ⊢; omega) ox o2 kx (fun q hq => ky q (by simp [hq]))
    rw [varsF, addT_ny, sumT, ofF_head, show ofF u.var [] = 0 from rfl, addS_0l (ky u (by simp)).2, if_pos rfl, ← ih]
    rw [sumT_congr (x' := []) (y' := y) (varsF [] y) fun v hv => ⟨rfl, ?_⟩]
    rcases mem_varsF _ [] y (Nat.le_refl _) v hv with ⟨q, h1, h2⟩ | ⟨q, h1, h2⟩
    · simp at h1
    · exact ofF_tail (by have := okFrom_var o2 q h1; omega)
  | n + 1, t :: x, u :: y, lx, ly, h, ox, oy, kx, ky => by
    obtain ⟨o1, o2⟩ := okFrom_cons ox
    obtain ⟨p1, p2⟩ := okFrom_cons oy
    rw [varsF]
    split
    · rename_i he
      have ih := sum_is_add n x y t.var u.var (by simp at h ⊢; omega) o2 p2 (fun q hq => kx q (by simp [hq])) (fun q hq => ky q (by simp [hq]))
      have e2 : ofF t.var (u :: y) = u.c := by rw [he]; exact ofF_head
      rw [sumT, ofF_head, e2]
      have hc : sumT (t :: x) (u :: y) (varsF x y) = sumT x y (varsF x y) := sumT_congr _ fun v hv => by
        have hb : t.var < v := by
          rcases mem_varsF _ x y (Nat.le_refl _) v hv with ⟨q, h1, h2⟩ | ⟨q, h1, h2⟩
          · have := okFrom_var o2 q h1; omega
          · have := okFrom_var p2 q h1; omega
        exact ⟨ofF_tail hb, ofF_tail (by omega)⟩
      rw [hc, ih]
      by_cases hs : (addS t.c u.c).2 = true
      · rw [if_pos hs, addT_eq x y (by omega) (by omega) hs]
      · rw [if_neg hs, addT_no x y (by omega) (by omega) hs]
    · rename_i hne
      split
      · rename_i hle
        have hlt : t.var < u.var := by omega
        have ih := sum_is_add n x (u :: y) t.var ly (by simp at h ⊢; omega) o2 oy (fun q hq => kx q (by simp [hq])) ky
        have e2 : ofF t.var (u :: y) = 0 := by unfold ofF; rw [if_neg (by omega)]; exact ofF_above p2 (by omega)
        rw [sumT, ofF_head, e2, addS_0r (kx t (by simp)).2, if_pos rfl, addT_lt x y hlt, ← ih]
        rw [sumT_congr (x' := x) (y' := u :: y) (varsF x (u :: y)) fun v hv => ⟨?_, rfl⟩]
        rcases mem_varsF _ x (u :: y) (Nat.le_refl _) v hv with ⟨q, h1, h2⟩ | ⟨q, h1, h2⟩
        · exact ofF_tail (by have := okFrom_var o2 q h1; omega)
        · rcases List.mem_cons.1 h1 with e | h1
          · subst e; exact ofF_tail (by omega)
          · exact ofF_tail (by have := okFrom_var p2 q h1; omega)
      · rename_i hle
        have hlt : u.var < t.var := by omega
        have ih := sum_is_add n (t :: x) y lx u.var (by simp at h ⊢; omega) ox p2 kx (fun q hq => ky q (by simp [hq]))
        have e2 : ofF u.var (t :: x) = 0 := by unfold ofF; rw [if_neg (by omega)]; exact ofF_above o2 (by omega)
        rw [sumT, ofF_head, e2, addS_0l (ky u (by simp)).2, if_pos rfl, addT_gt x y hlt, ← ih]
        rw [sumT_congr (x' := t :: x) (y' := y) (varsF (t :: x) y) fun v hv => ⟨rfl, ?_⟩]
        rcases mem_varsF _ (t :: x) y (Nat.le_refl _) v hv with ⟨q, h1, h2⟩ | ⟨q, h1, h2⟩
        · rcases List.mem_cons.1 h1 with e | h1
          · subst e; exact ofF_tail (by omega)
          · exact ofF_tail (by have := okFrom_var o2 q h1; omega)
        · exact ofF_tail (by have := okFrom_var p2 q h1; omega)
theorem isB_ok {l : List Tm} (h : isB l = true) : okFrom (-1) l = true := by unfold isB at h; simp only [Bool.and_eq_true] at h; exact h.2
theorem refAddL_eq (x y : Ln) (hx : x.ok) (hy : y.ok) : refAddL x y = addL x y := by
  unfold refAddL addL
  by_cases h : isB x.l = true ∧ isB y.l = true ∧ (addS x.k y.k).2 = true
  · rw [if_pos h, if_pos h, sum_is_add _ x.l y.l (-1) (-1) (Nat.le_refl _) (isB_ok h.1) (isB_ok h.2.1) hx.2 hy.2]
    cases addT x.l y.l <;> rfl
  · rw [if_neg h, if_neg h]
end Go.Proofs.Ytlafnhpmhflnaaa.Q

namespace Go.Proofs.Ytlafnhpmhflnaaa.Q
open Go.RowKit
variable [Amb]
def rest (v : Int) (l : List Tm) : List Tm := l.filter fun t => !(t.var == v)
def putL (a : Ln) (v : Int) (b : Ln) : Ln × Bool :=
  if isB a.l = true ∧ isB b.l = true then if ofF v a.l = 0 then (a, true) else if (scaleS b (ofF v a.l)).2 = true then addL ⟨a.k, rest v a.l⟩ (scaleS b (ofF v a.l)).1 else noLn else noLn
theorem rest_snoc (v : Int) {l : List Tm} {j : Nat} (h : j < l.length) : rest v (l.take (j + 1)) = rest v (l.take j) ++ (if l[j].var = v then [] else [l[j]]) := by
  unfold rest
  rw [take_snoc l j h, List.filter_append]
  by_cases e : l[j].var = v <;> simp [e]
theorem rest_ok {v : Int} {l : List Tm} (h : ∀ t ∈ l, t.ok) : ∀ t ∈ rest v l, t.ok := fun t ht => h t (List.mem_filter.1 ht).1
theorem scaleT_ok {k : Int} : ∀ {l r : List Tm}, scaleT k l = some r → (∀ t ∈ l, t.ok) → ∀ t ∈ r, t.ok
  | [], r, h, _ => by simp [scaleT] at h; subst h; simp
  | t :: l, r, h, ho => by
    unfold scaleT at h
    split at h
    · rw [Option.map_eq_some_iff] at h
      obtain ⟨q, h1, h2⟩ := h
      have ih := scaleT_ok h1 fun u hu => ho u (by simp [hu])
      split at h2
      · subst h2; exact ih
      · subst h2
        intro u hu
        rcases List.mem_cons.1 hu with e | hu
        · subst e; exact ⟨(ho t (by simp)).1, mulS_r _ _⟩
        · exact ih u hu
    · cases h
theorem noLn_ok : noLn.1.ok := ⟨by unfold R64; decide, fun t ht => by simp [noLn] at ht⟩
theorem scaleS_ok {b : Ln} {k : Int} (h : b.ok) : (scaleS b k).1.ok := by
  unfold scaleS
  split
  · split
    · rename_i l hl
      exact ⟨mulS_r _ _, scaleT_ok hl h.2⟩
    · exact noLn_ok
  · exact noLn_ok
theorem refPut_c (a : Ln) (v : Int) (b : Ln) (ha : a.ok) (hb : b.ok) : PFun Try.prog 27 [a.v, iv v, b.v] [] (lb (putL a v b)) [] := by
  refine fn_sem pok 70 0 Try.func27 (by kernel_rfl) rfl rfl rfl rfl ?_
  refine SWp.go pok (by kernel_rfl) ?_
  refine PFun.call (refIs_c a) ?_
  refine brP_split (fun h => ?_) (fun h => ?_)
  · exact fin1 (lb_no (if_neg fun h' => by simp [h'.1] at h))
  have h1 : isB a.l = true := by simpa using h
  have l1 := isB_len h1
  refine PFun.call (refIs_c b) ?_
  refine brP_split (fun h => ?_) (fun h => ?_)
  · exact fin1 (lb_no (if_neg fun h' => by simp [h'.2] at h))
  have h2 : isB b.l = true := by simpa using h
  have hp : putL a v b = if ofF v a.l = 0 then (a, true) else if (scaleS b (ofF v a.l)).2 = true then addL ⟨a.k, rest v a.l⟩ (scaleS b (ofF v a.l)).1 else noLn := if_pos ⟨h1, h2⟩
  refine PFun.call (of_c a v (by omega)) ?_
  refine brP_split (fun h => ?_) (fun h => ?_)
  · exact fin1 (by rw [hp, if_pos (by simpa using h)]; rfl)
  rw [if_neg (by simpa using h)] at hp
  refine SWp.tipBox 3 1 2 rfl rfl ?_
  refine SWp.loop (fun p : Nat × List (List D) => p.1 ≤ a.l.length ∧ p.2 = (rest v (a.l.take p.1)).map Tm.e ∧ (rest v (a.l.take p.1)).length ≤ p.1)
    (fun p => ([(1, iv v), (3, .ptr 0 0), (5, .ptr 1 0), (6, .ptr 2 0), (8, iv (ofF v a.l)), (9, .ptr 3 0), (10, iv p.1)], [.box [.d (.int .i64 a.k), .d (.sl (a.l.map Tm.e))], .box [.d (.int .i64 b.k), .d (.sl (b.l.map Tm.e))], .box [iv 0, .fsl []], .box [iv a.k, .gsl p.2 4], .tip 2 p.2.length]))
    (fun p => a.l.length - p.1) (0, []) ⟨Nat.zero_le _, by simp [rest], by simp [rest]⟩ (Le.same ⟨rfl, rfl, rfl, rfl, rfl, rfl, rfl, trivial⟩) (fun p hpp => ?_)
  obtain ⟨j, rows⟩ := p
  obtain ⟨hj, hs, hl⟩ := hpp
  simp only at hj hs hl
  subst hs
  refine SWp.go pok (by kernel_rfl) ?_
  refine brP_split (fun h => ?_) (fun h => ?_)
  · have hlt : j < a.l.length := by simpa using h
    have hsn := rest_snoc v hlt
    refine PIdx.map (get_at hlt) ?_
    refine brP_split (fun h3 => ?_) (fun h3 => ?_)
    · rw [if_neg (by simpa using h3)] at hsn
      refine PIdx.map (get_at hlt) ?_
      refine ⟨⟨rfl, RL_map _, RL_one rfl, by simp; omega⟩, ?_⟩
      exact ⟨(j + 1, (rest v (a.l.take j)).map Tm.e ++ [Tm.e a.l[j]]), ⟨hlt, by show _ = (rest v (a.l.take (j + 1))).map Tm.e; rw [hsn, List.map_append]; rfl, by show (rest v (a.l.take (j + 1))).length ≤ j + 1; rw [hsn]; simp; omega⟩, by show a.l.length - (j + 1) < a.l.length - j; omega, .inr ⟨[0, 1, 2, 3, 4], ⟨rfl, rfl⟩, rfl, rfl, rfl, rfl, rfl, rfl, rfl, sint (wrap_nat j (by omega)), trivial⟩⟩
    · rw [if_pos (by simpa using h3), List.append_nil] at hsn
      exact ⟨(j + 1, (rest v (a.l.take j)).map Tm.e), ⟨hlt, by show _ = (rest v (a.l.take (j + 1))).map Tm.e; rw [hsn], by show (rest v (a.l.take (j + 1))).length ≤ j + 1; rw [hsn]; omega⟩, by show a.l.length - (j + 1) < a.l.length - j; omega, .inr ⟨[0, 1, 2, 3, 4], ⟨rfl, rfl⟩, rfl, rfl, rfl, rfl, rfl, rfl, rfl, sint (wrap_nat j (by omega)), trivial⟩⟩
  · have hk : a.l.take j = a.l := List.take_of_length_le (by simp at h; omega)
    refine PFun.call (refScale_c b (ofF v a.l) hb (ofF_r ha.2)) ?_
    refine brP_split (fun h3 => ?_) (fun h3 => ?_)
    · exact fin1 (lb_no (by rw [hp, if_neg (by simpa using h3)]))
    rw [if_pos (by simpa using h3)] at hp
    have hx : (⟨a.k, rest v (a.l.take j)⟩ : Ln).ok := ⟨ha.1, rest_ok fun t ht => ha.2 t (List.mem_of_mem_take ht)⟩
    have hc := refAddL_c ⟨a.k, rest v (a.l.take j)⟩ (scaleS b (ofF v a.l)).1 hx (scaleS_ok hb)
    rw [refAddL_eq _ _ hx (scaleS_ok hb)] at hc
    refine PFun.call hc ?_
    exact fin1 (by rw [hp, hk]; rfl)
end Go.Proofs.Ytlafnhpmhflnaaa.Q

namespace Go.Proofs.Ytlafnhpmhflnaaa.Q
open Go.RowKit
variable [Amb]
def Tm.v (t : Tm) : V := .agg [iv t.var, iv t.c]
/-- At which place a variable stands first, from a place on; -1: nowhere. -/
def idxF (v : Int) : Nat → List Tm → Int
  | _, [] => -1
  | k, t :: r => if t.var = v then k else idxF v (k + 1) r
theorem idxF_at (v : Int) {l : List Tm} {k : Nat} (h : k < l.length) : idxF v k (l.drop k) = if l[k].var = v then (k : Int) else idxF v (k + 1) (l.drop (k + 1)) := by rw [List.drop_eq_getElem_cons h]; rfl
theorem putFn_c (t : Tm) (v : Int) : PFun Try.prog 49 [t.v, .ptr 0 0] [.box [iv v]] (.d (.bool (t.var == v))) [.box [iv v]] := by
  refine fn_sem pok 8 1 Try.func49 (by kernel_rfl) rfl rfl rfl rfl ?_
  refine SWp.go pok (by kernel_rfl) ?_
  refine brP_split (fun h => ?_) (fun h => ?_)
  · exact ⟨dbool h.symm, rfl⟩
  · exact ⟨dbool h.symm, rfl⟩
theorem idxPut_c (l : List Tm) (v : Int) (hl : l.length < 1073741824) : PFun Try.prog 48 [.d (.sl (l.map Tm.e)), .fn (.func 49) [] [.ptr 0 0]] [.box [iv v]] (iv (idxF v 0 l)) [.box [iv v]] := by
  refine fn_sem pok 19 1 Try.func48 (by kernel_rfl) rfl rfl rfl rfl ?_
  refine SWp.go pok (by kernel_rfl) ?_
  refine SWp.loop (fun k : Nat => k ≤ l.length ∧ idxF v k (l.drop k) = idxF v 0 l) (fun k => ([(0, .d (.sl (l.map Tm.e))), (1, .fn (.func 49) [] [.ptr 0 0]), (7, iv (l.map Tm.e).length), (8, iv k)], [.box [iv v]])) (fun k => l.length - k) 0 ⟨Nat.zero_le _, rfl⟩ (Le.same ⟨rfl, rfl, rfl, rfl, trivial⟩) (fun k hk => ?_)
  obtain ⟨hj, hk⟩ := hk
  refine SWp.go pok (by kernel_rfl) ?_
  refine brP_split (fun h => ?_) (fun h => ?_)
  · have hlt : k < l.length := by simpa using h
    have hat := idxF_at v hlt
    refine PIdx.map (get_at hlt) ?_
    refine PFun.call (putFn_c l[k] v) ?_
    refine brP_split (fun h3 => ?_) (fun h3 => ?_)
    · exact ⟨dint (by rw [← hk, hat, if_pos (by simpa using h3)]), rfl⟩
    · exact ⟨k + 1, ⟨hlt, by rw [← hk, hat, if_neg (by simpa using h3)]⟩, by omega, Le.same ⟨rfl, rfl, rfl, sint (wrap_nat k (by omega)), trivial⟩⟩
  · have hk' : k = l.length := by simp at h; omega
    exact ⟨dint (by rw [← hk, drop_nil hk']; rfl), rfl⟩
end Go.Proofs.Ytlafnhpmhflnaaa.Q
