/- Sums of variables: one put into another, by the reference. No condition. -/
import Derived.Test.YtlafnhpmhflnaaaQzh
set_option linter.unusedVariables false
set_option linter.unusedSectionVars false
set_option linter.unnecessarySimpa false
set_option linter.unusedSimpArgs false
set_option maxRecDepth 100000
set_option maxHeartbeats 4000000
namespace Go.Proofs.Ytlafnhpmhflnaaa.Q
open Go.RowKit
variable [Amb]
def rest (v : Int) (l : List Tm) : List Tm := l.filter fun t => !(t.var == v)
def putL (a : Ln) (v : Int) (b : Ln) : Ln × Bool :=
  if isB a.l = true ∧ isB b.l = true then if ofF v a.l = 0 then (a, true) else if (scaleS b (ofF v a.l)).2 = true then addL ⟨a.k, rest v a.l⟩ (scaleS b (ofF v a.l)).1 else noLn else noLn
theorem rest_snoc (v : Int) {l : List Tm} {j : Nat} (h : j < l.length) : rest v (l.take (j + 1)) = rest v (l.take j) ++ (if l[j].var = v then [] else [l[j]]) := by
  unfold rest
  rw [take_snoc l j h, List.filter_append]
  by_cases e : l[j].var = v <;> simp [e]
theorem rest_ok {v : Int} {l : List Tm} (h : ∀ t ∈ l, t.ok) : ∀ t ∈ rest v l, t.ok := fun t ht => h t (List.mem_filter.1 ht).1
theorem scaleT_ok {k : Int} : ∀ {l r : List Tm}, scaleT k l = some r → (∀ t ∈ l, t.ok) → ∀ t ∈ r, t.ok
  | [], r, h, _ => by simp [scaleT] at h; subst h; simp
  | t :: l, r, h, ho => by
    unfold scaleT at h
    split at h
    · rw [Option.map_eq_some_iff] at h
      obtain ⟨q, h1, h2⟩ := h
      have ih := scaleT_ok h1 fun u hu => ho u (by simp [hu])
      split at h2
      · subst h2; exact ih
      · subst h2
        intro u hu
        rcases List.mem_cons.1 hu with e | hu
        · subst e; exact ⟨(ho t (by simp)).1, mulS_r _ _⟩
        · exact ih u hu
    · cases h
theorem noLn_ok : noLn.1.ok := ⟨by unfold R64; decide, fun t ht => by simp [noLn] at ht⟩
theorem scaleS_ok {b : Ln} {k : Int} (h : b.ok) : (scaleS b k).1.ok := by
  unfold scaleS
  split
  · split
    · rename_i l hl
      exact ⟨mulS_r _ _, scaleT_ok hl h.2⟩
    · exact noLn_ok
  · exact noLn_ok
theorem refPut_c (a : Ln) (v : Int) (b : Ln) (ha : a.ok) (hb : b.ok) : PFun Try.prog 27 [a.v, iv v, b.v] [] (lb (putL a v b)) [] := by
  refine fn_sem pok 70 0 Try.func27 (by kernel_rfl) rfl rfl rfl rfl ?_
  refine SWp.go pok (by kernel_rfl) ?_
  refine PFun.call (refIs_c a) ?_
  refine brP_split (fun h => ?_) (fun h => ?_)
  · exact fin1 (lb_no (if_neg fun h' => by simp [h'.1] at h))
  have h1 : isB a.l = true := by simpa using h
  have l1 := isB_len h1
  refine PFun.call (refIs_c b) ?_
  refine brP_split (fun h => ?_) (fun h => ?_)
  · exact fin1 (lb_no (if_neg fun h' => by simp [h'.2] at h))
  have h2 : isB b.l = true := by simpa using h
  have hp : putL a v b = if ofF v a.l = 0 then (a, true) else if (scaleS b (ofF v a.l)).2 = true then addL ⟨a.k, rest v a.l⟩ (scaleS b (ofF v a.l)).1 else noLn := if_pos ⟨h1, h2⟩
  refine PFun.call (of_c a v (by omega)) ?_
  refine brP_split (fun h => ?_) (fun h => ?_)
  · exact fin1 (by rw [hp, if_pos (by simpa using h)]; rfl)
  rw [if_neg (by simpa using h)] at hp
  refine SWp.tipBox 3 1 2 rfl rfl ?_
  refine SWp.loop (fun p : Nat × List (List D) => p.1 ≤ a.l.length ∧ p.2 = (rest v (a.l.take p.1)).map Tm.e ∧ (rest v (a.l.take p.1)).length ≤ p.1)
    (fun p => ([(1, iv v), (3, .ptr 0 0), (5, .ptr 1 0), (6, .ptr 2 0), (8, iv (ofF v a.l)), (9, .ptr 3 0), (10, iv p.1)], [.box [.d (.int .i64 a.k), .d (.sl (a.l.map Tm.e))], .box [.d (.int .i64 b.k), .d (.sl (b.l.map Tm.e))], .box [iv 0, .fsl []], .box [iv a.k, .gsl p.2 4], .tip 2 p.2.length]))
    (fun p => a.l.length - p.1) (0, []) ⟨Nat.zero_le _, by simp [rest], by simp [rest]⟩ (Le.same ⟨rfl, rfl, rfl, rfl, rfl, rfl, rfl, trivial⟩) (fun p hpp => ?_)
  obtain ⟨j, rows⟩ := p
  obtain ⟨hj, hs, hl⟩ := hpp
  simp only at hj hs hl
  subst hs
  refine SWp.go pok (by kernel_rfl) ?_
  refine brP_split (fun h => ?_) (fun h => ?_)
  · have hlt : j < a.l.length := by simpa using h
    have hsn := rest_snoc v hlt
    refine PIdx.map (get_at hlt) ?_
    refine brP_split (fun h3 => ?_) (fun h3 => ?_)
    · rw [if_neg (by simpa using h3)] at hsn
      refine PIdx.map (get_at hlt) ?_
      refine ⟨⟨rfl, RL_map _, RL_one rfl, by simp; omega⟩, ?_⟩
      exact ⟨(j + 1, (rest v (a.l.take j)).map Tm.e ++ [Tm.e a.l[j]]), ⟨hlt, by show _ = (rest v (a.l.take (j + 1))).map Tm.e; rw [hsn, List.map_append]; rfl, by show (rest v (a.l.take (j + 1))).length ≤ j + 1; rw [hsn]; simp; omega⟩, by show a.l.length - (j + 1) < a.l.length - j; omega, .inr ⟨[0, 1, 2, 3, 4], ⟨rfl, rfl⟩, rfl, rfl, rfl, rfl, rfl, rfl, rfl, sint (wrap_nat j (by omega)), trivial⟩⟩
    · rw [if_pos (by simpa using h3), List.append_nil] at hsn
      exact ⟨(j + 1, (rest v (a.l.take j)).map Tm.e), ⟨hlt, by show _ = (rest v (a.l.take (j + 1))).map Tm.e; rw [hsn], by show (rest v (a.l.take (j + 1))).length ≤ j + 1; rw [hsn]; omega⟩, by show a.l.length - (j + 1) < a.l.length - j; omega, .inr ⟨[0, 1, 2, 3, 4], ⟨rfl, rfl⟩, rfl, rfl, rfl, rfl, rfl, rfl, rfl, sint (wrap_nat j (by omega)), trivial⟩⟩
  · have hk : a.l.take j = a.l := List.take_of_length_le (by simp at h; omega)
    refine PFun.call (refScale_c b (ofF v a.l) hb (ofF_r ha.2)) ?_
    refine brP_split (fun h3 => ?_) (fun h3 => ?_)
    · exact fin1 (lb_no (by rw [hp, if_neg (by simpa using h3)]))
    rw [if_pos (by simpa using h3)] at hp
    have hx : (⟨a.k, rest v (a.l.take j)⟩ : Ln).ok := ⟨ha.1, rest_ok fun t ht => ha.2 t (List.mem_of_mem_take ht)⟩
    have hc := refAddL_c ⟨a.k, rest v (a.l.take j)⟩ (scaleS b (ofF v a.l)).1 hx (scaleS_ok hb)
    rw [refAddL_eq _ _ hx (scaleS_ok hb)] at hc
    refine PFun.call hc ?_
    exact fin1 (by rw [hp, hk]; rfl)
end Go.Proofs.Ytlafnhpmhflnaaa.Q
