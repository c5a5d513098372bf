/- Sums of variables: what the functions do (whether written so; products). No condition. -/
import Derived.Test.YtlafnhpmhflnaaaQva
import Derived.Test.YtlafnhpmhflnaaaQta
set_option linter.unusedVariables false
set_option linter.unusedSectionVars false
set_option linter.unnecessarySimpa false
set_option linter.unusedSimpArgs false
set_option maxRecDepth 100000
set_option maxHeartbeats 4000000
namespace Go.Proofs.Ytlafnhpmhflnaaa.Q
open Go.RowKit
variable [Amb]
theorem refIs_c (x : Ln) : PFun Try.prog 29 [x.v] [] (.d (.bool (isB x.l))) [] := by
  refine fn_sem pok 51 0 Try.func29 (by kernel_rfl) rfl rfl rfl rfl ?_
  refine SWp.go pok (by kernel_rfl) ?_
  refine brP_split (fun h => ?_) (fun h => ?_)
  · have e : isB x.l = false := by unfold isB; simp at h; simp; omega
    exact ⟨by rw [e], rfl⟩
  · have hlen : x.l.length ≤ 40 := by simp at h; omega
    refine SWp.loop (fun k : Nat => k ≤ x.l.length ∧ okFrom (lastV x.l k) (x.l.drop k) = isB x.l ∧ -1 ≤ lastV x.l k) (fun k => ([(1, .ptr 0 0), (3, .d (.int .i64 k))], [.box [.d (.int .i64 x.k), .d (.sl (x.l.map Tm.e))]])) (fun k => x.l.length - k) 0 ?_ (Le.same ⟨rfl, rfl, trivial⟩) (fun k hk => ?_)
    · exact ⟨Nat.zero_le _, by simp [isB, lastV, hlen], by simp [lastV]⟩
    · obtain ⟨h1, h2, h3⟩ := hk
      refine SWp.go pok (by kernel_rfl) ?_
      refine brP_split (fun h => ?_) (fun h => ?_)
      · have hlt : k < x.l.length := by simpa using h
        have hat := okFrom_at (lastV x.l k) x.l k hlt
        have hx := List.getElem?_eq_getElem hlt
        have fin : okFrom (lastV x.l k) (x.l.drop k) = false → isB x.l = false := fun e => by rw [← h2]; exact e
        refine PIdx.map hx ?_
        refine brP_split (fun h4 => ?_) (fun h4 => ?_)
        · refine ⟨?_, rfl⟩
          rw [fin]
          rw [hat, if_pos]; left; simp at h4; omega
        · refine PIdx.map hx ?_
          refine brP_split (fun h5 => ?_) (fun h5 => ?_)
          · refine ⟨?_, rfl⟩
            rw [fin]
            rw [hat, if_pos]; right; simpa using h5
          · have good : ¬ (x.l[k].var ≤ lastV x.l k) → isB x.l = okFrom (lastV x.l (k + 1)) (x.l.drop (k + 1)) := fun hn => by
              rw [← h2, hat, if_neg (by simp at h5; omega), lastV_succ hlt]
            refine brP_split (fun h6 => ?_) (fun h6 => ?_)
            · have hk0 : 0 < k := by simpa using h6
              have hx1 : x.l[k - 1]? = some (x.l[k - 1]'(by omega)) := List.getElem?_eq_getElem (by omega)
              have hw : IntKind.i64.wrap ((k : Int) - 1) = ((k - 1 : Nat) : Int) := by rw [IntKind.wrap_i64]; omega
              have hlv : lastV x.l k = (x.l[k - 1]'(by omega)).var := by
                simp only [lastV, if_neg (by omega : ¬ k = 0), List.getD_eq_getElem?_getD, hx1]; rfl
              refine PIdx.map' hw hx1 ?_
              refine PIdx.map hx ?_
              refine brP_split (fun h7 => ?_) (fun h7 => ?_)
              · refine ⟨?_, rfl⟩
                rw [fin]
                rw [hat, if_pos]; left; simp at h7; omega
              · exact ⟨k + 1, ⟨by omega, (good (by simp at h7; omega)).symm, by rw [lastV_succ hlt]; simp at h4; omega⟩, by omega, Le.same ⟨rfl, by rw [← wrap_nat k (by omega)]; rfl, trivial⟩⟩
            · have hk0 : k = 0 := by simp at h6; omega
              subst hk0
              exact ⟨1, ⟨by omega, (good (by simp at h4; simp [lastV]; omega)).symm, by rw [lastV_succ hlt]; simp at h4; omega⟩, by omega, Le.same ⟨rfl, rfl, trivial⟩⟩
      · have hk : k = x.l.length := by simp at h; omega
        refine ⟨?_, rfl⟩
        rw [← h2, hk, List.drop_length]; rfl
theorem linIs_c (x : Ln) : PFun Try.prog 28 [x.v] [] (.d (.bool (isB x.l))) [] := by
  refine fn_sem pok 29 0 Try.func28 (by kernel_rfl) rfl rfl rfl rfl ?_
  refine SWp.go pok (by kernel_rfl) ?_
  refine brP_split (fun h => ?_) (fun h => ?_)
  · have e : isB x.l = false := by unfold isB; simp at h; simp; omega
    exact fin1 (dbool e.symm)
  · have hlen : x.l.length ≤ 40 := by simp at h; omega
    refine SWp.loop (fun p : Nat × Int => p.1 ≤ x.l.length ∧ okFrom p.2 (x.l.drop p.1) = isB x.l) (fun p => ([(3, iv p.2), (11, .d (.sl (x.l.map Tm.e))), (12, iv (x.l.map Tm.e).length), (13, iv p.1)], [.box [.d (.int .i64 x.k), .d (.sl (x.l.map Tm.e))]])) (fun p => x.l.length - p.1) (0, -1) ?_ (Le.same ⟨rfl, rfl, rfl, rfl, trivial⟩) (fun p hp => ?_)
    · exact ⟨Nat.zero_le _, by simp [isB, hlen]⟩
    · obtain ⟨k, last⟩ := p
      obtain ⟨h1, h2⟩ := hp
      refine SWp.go pok (by kernel_rfl) ?_
      refine brP_split (fun h => ?_) (fun h => ?_)
      · have hlt : k < x.l.length := by simpa using h
        have hat := okFrom_at last x.l k hlt
        refine PIdx.map (get_at hlt) ?_
        refine brP_split (fun h4 => ?_) (fun h4 => ?_)
        · exact fin1 (dbool (by rw [← h2]; show _ = okFrom _ _; rw [hat, if_pos (.inl (by simpa using h4))]))
        · refine brP_split (fun h5 => ?_) (fun h5 => ?_)
          · exact fin1 (dbool (by rw [← h2]; show _ = okFrom _ _; rw [hat, if_pos (.inr (by simpa using h5))]))
          · refine ⟨(k + 1, x.l[k].var), ⟨hlt, ?_⟩, by show x.l.length - (k + 1) < x.l.length - k; omega, .inr ⟨[0], ⟨rfl, rfl⟩, rfl, rfl, rfl, rfl, ?_, trivial⟩⟩
            · rw [← h2]; show _ = okFrom _ _; rw [hat, if_neg (by simp at h4 h5; simp; omega)]
            · exact sint (wrap_nat k (by omega))
      · have hk : k = x.l.length := by simp at h; omega
        exact fin1 (dbool (by rw [← h2]; show _ = okFrom _ (x.l.drop k); rw [hk, List.drop_length]; rfl))
theorem drop_nil {α : Type} {l : List α} {k : Nat} (h : k = l.length) : l.drop k = [] := by subst h; exact List.drop_length
theorem opt_app (l : Option (List Tm)) (acc : List Tm) (t : Tm) : (l.map (fun r => t :: r)).map (acc ++ ·) = l.map (acc ++ [t] ++ ·) := by cases l <;> simp
theorem RL_one {r : List D} {n : Nat} (h : r.length = n) : RL [r] n := fun q hq => by rw [List.mem_singleton.1 hq]; exact h
theorem RL_map (l : List Tm) : RL (l.map Tm.e) 2 := fun r hr => by obtain ⟨t, _, rfl⟩ := List.mem_map.1 hr; rfl
theorem linScale_c (x : Ln) (k : Int) (hx : x.ok) (hk : R64 k) : PFun Try.prog 24 [x.v, iv k] [] (lb (scaleS x k)) [] := by
  have c1 := numMul_c x.k k hx.1 hk
  refine fn_sem pok 53 0 Try.func24 (by kernel_rfl) rfl rfl rfl rfl ?_
  refine SWp.go pok (by kernel_rfl) ?_
  refine PFun.call c1 ?_
  refine brP_split (fun h => ?_) (fun h => ?_)
  · exact fin1 (by rw [scale_no1 (by simpa using h)]; rfl)
  have h1 : (mulS x.k k).2 = true := by simpa using h
  refine PFun.call (linIs_c x) ?_
  refine brP_split (fun h => ?_) (fun h => ?_)
  · exact fin1 (by rw [scale_no2 (by simpa using h)]; rfl)
  have h2 : isB x.l = true := by simpa using h
  have hlen := isB_len h2
  refine SWp.tipBox 1 1 2 rfl rfl ?_
  refine SWp.loop (fun p : Nat × List (List D) => ∃ acc : List Tm, p.2 = acc.map Tm.e ∧ p.1 ≤ x.l.length ∧ acc.length ≤ p.1 ∧ (scaleT k (x.l.drop p.1)).map (acc ++ ·) = scaleT k x.l)
    (fun p => ([(1, iv k), (2, .ptr 0 0), (4, .ptr 1 0), (25, .d (.sl (x.l.map Tm.e))), (26, iv (x.l.map Tm.e).length), (27, iv p.1)], [.box [.d (.int .i64 x.k), .d (.sl (x.l.map Tm.e))], .box [iv (mulS x.k k).1, .gsl p.2 2], .tip 2 p.2.length]))
    (fun p => x.l.length - p.1) (0, []) ⟨[], rfl, Nat.zero_le _, Nat.le_refl _, by show (scaleT k x.l).map _ = scaleT k x.l; cases scaleT k x.l <;> simp⟩ (Le.same ⟨rfl, rfl, rfl, rfl, rfl, rfl, trivial⟩) (fun p hp => ?_)
  obtain ⟨j, rows⟩ := p
  obtain ⟨acc, hr, hj, hac, hs⟩ := hp
  simp only at hr hj hac hs
  subst hr
  refine SWp.go pok (by kernel_rfl) ?_
  refine brP_split (fun h => ?_) (fun h => ?_)
  · have hlt : j < x.l.length := by simpa using h
    have hat := scaleT_at k x.l j hlt
    refine PIdx.map (get_at hlt) ?_
    refine PFun.call (numMul_c x.l[j].c k (lin_at hx hlt).2 hk) ?_
    refine brP_split (fun h3 => ?_) (fun h3 => ?_)
    · refine fin1 ?_
      rw [scale_no3 (by rw [← hs, hat, if_neg (by simpa using h3)]; rfl)]; rfl
    · rw [if_pos (by simpa using h3)] at hat
      refine brP_split (fun h4 => ?_) (fun h4 => ?_)
      · have h4' : ¬ (mulS x.l[j].c k).1 = 0 := by simpa using h4
        refine ⟨⟨rfl, RL_map acc, ?_, ?_⟩, ?_⟩
        · exact RL_one rfl
        · simp; omega
        · refine ⟨(j + 1, acc.map Tm.e ++ [Tm.e ⟨x.l[j].var, (mulS x.l[j].c k).1⟩]), ⟨acc ++ [⟨x.l[j].var, (mulS x.l[j].c k).1⟩], by simp, hlt, by simp; omega, ?_⟩, by show x.l.length - (j + 1) < x.l.length - j; omega, .inr ⟨[0, 1, 2], ⟨rfl, rfl⟩, rfl, rfl, rfl, rfl, rfl, rfl, sint (wrap_nat j (by omega)), trivial⟩⟩
          rw [← hs, hat, ← opt_app]; simp only [if_neg h4']
      · have h4' : (mulS x.l[j].c k).1 = 0 := by simpa using h4
        refine ⟨(j + 1, acc.map Tm.e), ⟨acc, rfl, hlt, by show acc.length ≤ j + 1; omega, ?_⟩, by show x.l.length - (j + 1) < x.l.length - j; omega, .inr ⟨[0, 1, 2], ⟨rfl, rfl⟩, rfl, rfl, rfl, rfl, rfl, rfl, sint (wrap_nat j (by omega)), trivial⟩⟩
        rw [← hs, hat]; simp only [if_pos h4', Option.map_id']
  · have hk : j = x.l.length := by simp at h; omega
    refine fin1 ?_
    rw [drop_nil hk] at hs
    rw [scale_yes h1 h2 hs.symm]
    simp [lb, Ln.v]
end Go.Proofs.Ytlafnhpmhflnaaa.Q
