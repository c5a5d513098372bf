/- The greatest divisor of a list, both ways. No condition. -/
import Derived.Test.YtlafnhpmhflnaaaQx
set_option linter.unusedVariables false
set_option linter.unusedSectionVars false
set_option linter.unnecessarySimpa false
set_option linter.unusedSimpArgs false
set_option maxRecDepth 100000
namespace Go.Proofs.Ytlafnhpmhflnaaa.Q
open Go.RowKit
variable [Amb]
/-- A cell of a list of whole numbers. -/
def ic (n : Int) : List D := [.int .i64 n]
abbrev ils (l : List Int) : V := .d (.sl (l.map ic))
theorem gcdF_full (l : List Int) : gcdF (l.take l.length) = gcdF l := by rw [List.take_length]
theorem all_not {l : List Int} {k : Nat} (hk : k < l.length) (ha : (l.take k).all notMin = true) (h : ¬ l[k] = -9223372036854775808) : (l.take (k + 1)).all notMin = true := by
  rw [take_snoc l k hk, List.all_append, ha]; simp [notMin, h]
theorem numGcd_c (l : List Int) (hl : l.length < 4611686018427387904) (hr : ∀ n ∈ l, R64 n) : PFun Try.prog 63 [ils l] [] (iv (gcdL l)) [] := by
  refine fn_sem pok 30 0 Try.func63 (by kernel_rfl) rfl rfl rfl rfl ?_
  refine SWp.go pok (by kernel_rfl) ?_
  refine SWp.loop (fun k : Nat => k ≤ l.length ∧ (l.take k).all notMin = true) (fun k => ([(0, ils l), (2, iv 0), (7, ils l), (8, iv (l.map ic).length), (9, iv k)], [])) (fun k => l.length - k) 0 ⟨Nat.zero_le _, by simp⟩ (Le.same ⟨rfl, rfl, rfl, rfl, rfl, trivial⟩) (fun k hk => ?_)
  obtain ⟨h1, h2⟩ := hk
  refine SWp.go pok (by kernel_rfl) ?_
  refine brP_split (fun h => ?_) (fun h => ?_)
  · have hlt : k < l.length := by simpa using h
    refine PIdx.map (get_at hlt) ?_
    refine brP_split (fun h4 => ?_) (fun h4 => ?_)
    · exact fin1 (dint (gcdL_no hlt (by simpa using h4)).symm)
    · exact ⟨k + 1, ⟨by omega, all_not hlt h2 (by simpa using h4)⟩, by omega, Le.same ⟨rfl, rfl, rfl, rfl, sint (wrap_nat k (by omega)), trivial⟩⟩
  · have hk : k = l.length := by simp at h; omega
    subst hk
    rw [List.take_length] at h2
    have hg := gcdF_r l h2 hr
    have hx : ∀ n ∈ l, n ≠ -9223372036854775808 := fun n hn => by have := List.all_eq_true.1 h2 n hn; simpa [notMin] using this
    refine SWp.loop (fun k : Nat => k ≤ l.length) (fun k => ([(2, iv (gcdF (l.take k) : Nat)), (16, ils l), (17, iv (l.map ic).length), (18, iv k)], [])) (fun k => l.length - k) 0 (Nat.zero_le _) (Le.same ⟨rfl, rfl, rfl, rfl, trivial⟩) (fun k hk => ?_)
    refine SWp.go pok (by kernel_rfl) ?_
    refine brP_split (fun h => ?_) (fun h => ?_)
    · have hlt : k < l.length := by simpa using h
      have r1 := hr l[k] (List.getElem_mem hlt)
      have r2 := hx l[k] (List.getElem_mem hlt)
      refine PIdx.map (get_at hlt) ?_
      have hm : maxI l[k] [IntKind.i64.wrap (0 - l[k])] = (l[k].natAbs : Int) := by
        have : IntKind.i64.wrap (0 - l[k]) = -l[k] := by rw [wrap_in (by unfold R64 at *; omega)]; omega
        rw [this]; simp only [maxI]; omega
      have c := gcd_c (gcdF (l.take k)) l[k].natAbs (hg k) (by unfold R64 at *; omega)
      rw [← hm] at c
      refine PFun.call c ?_
      exact ⟨k + 1, by show k + 1 ≤ _; omega, by omega, Le.same ⟨sint (by rw [gcdF_snoc l k hlt]), rfl, rfl, sint (wrap_nat k (by omega)), trivial⟩⟩
    · have hk : k = l.length := by simp at h; omega
      subst hk
      exact fin1 (dint (by rw [List.take_length, gcdL_yes h2]))
theorem refGcd_c (l : List Int) (hl : l.length < 4611686018427387904) (hr : ∀ n ∈ l, R64 n) : PFun Try.prog 43 [ils l] [] (iv (gcdL l)) [] := by
  refine fn_sem pok 44 0 Try.func43 (by kernel_rfl) rfl rfl rfl rfl ?_
  refine SWp.go pok (by kernel_rfl) ?_
  refine SWp.loop (fun k : Nat => k ≤ l.length ∧ (l.take k).all notMin = true) (fun k => ([(0, ils l), (3, iv 0), (4, iv k)], [])) (fun k => l.length - k) 0 ⟨Nat.zero_le _, by simp⟩ (Le.same ⟨rfl, rfl, rfl, trivial⟩) (fun k hk => ?_)
  obtain ⟨h1, h2⟩ := hk
  refine SWp.go pok (by kernel_rfl) ?_
  refine brP_split (fun h => ?_) (fun h => ?_)
  · have hlt : k < l.length := by simpa using h
    refine PIdx.map (get_at hlt) ?_
    refine brP_split (fun h4 => ?_) (fun h4 => ?_)
    · exact fin1 (dint (gcdL_no hlt (by simpa using h4)).symm)
    · exact ⟨k + 1, ⟨by omega, all_not hlt h2 (by simpa using h4)⟩, by omega, Le.same ⟨rfl, rfl, sint (wrap_nat k (by omega)), trivial⟩⟩
  · have hk : k = l.length := by simp at h; omega
    subst hk
    rw [List.take_length] at h2
    have hg := gcdF_r l h2 hr
    have hx : ∀ n ∈ l, n ≠ -9223372036854775808 := fun n hn => by have := List.all_eq_true.1 h2 n hn; simpa [notMin] using this
    refine SWp.loop (fun k : Nat => k ≤ l.length) (fun k => ([(0, ils l), (3, iv (gcdF (l.take k) : Nat)), (5, iv k)], [])) (fun k => l.length - k) 0 (Nat.zero_le _) (Le.same ⟨rfl, rfl, rfl, trivial⟩) (fun k hk => ?_)
    refine SWp.go pok (by kernel_rfl) ?_
    refine brP_split (fun h => ?_) (fun h => ?_)
    · have hlt : k < l.length := by simpa using h
      have r1 := hr l[k] (List.getElem_mem hlt)
      have r2 := hx l[k] (List.getElem_mem hlt)
      refine PIdx.map (get_at hlt) ?_
      have euclid : ∀ p q : Nat, q ≠ 0 → R64 p → R64 q → Nat.gcd q (p % q) = Nat.gcd p q ∧ R64 (p % q : Nat) ∧ p % q < q := fun p q h0 hp hq => ⟨by rw [Nat.gcd_comm q, ← Nat.gcd_rec, Nat.gcd_comm], by unfold R64 at *; have := Nat.mod_lt p (Nat.pos_of_ne_zero h0); omega, Nat.mod_lt p (Nat.pos_of_ne_zero h0)⟩
      refine brP_split (fun h5 => ?_) (fun h5 => ?_)
      all_goals
        refine SWp.loop (fun x : Nat × Nat => Nat.gcd x.1 x.2 = gcdF (l.take (k + 1)) ∧ R64 x.1 ∧ R64 x.2) (fun x => ([(0, ils l), (5, iv k), (6, iv x.1), (7, iv x.2)], [])) (fun x => x.2) (gcdF (l.take k), l[k].natAbs) ⟨(gcdF_snoc l k hlt).symm, hg k, by unfold R64 at *; omega⟩ (Le.same ⟨rfl, rfl, rfl, sint ?_, trivial⟩) (fun x hx => ?_)
        · first
            | (show IntKind.i64.wrap (0 - l[k]) = (l[k].natAbs : Int); rw [wrap_in (by unfold R64 at *; omega)]; simp at h5; omega)
            | (show l[k] = (l[k].natAbs : Int); simp at h5; omega)
        · obtain ⟨p, q⟩ := x
          obtain ⟨hg, hp, hq⟩ := hx
          refine SWp.go pok (by kernel_rfl) ?_
          refine brP_split (fun h6 => ?_) (fun h6 => ?_)
          · have h0 : q ≠ 0 := by simpa using h6
            obtain ⟨e1, e2, e3⟩ := euclid p q h0 hp hq
            refine ⟨by omega, ?_⟩
            exact ⟨(q, p % q), ⟨e1.trans hg, hq, e2⟩, e3, Le.same ⟨rfl, rfl, rfl, rfl, trivial⟩⟩
          · have h0 : q = 0 := by simpa using h6
            subst h0
            refine ⟨k + 1, hlt, by omega, Le.same ⟨rfl, sint ?_, sint (wrap_nat k (by omega)), trivial⟩⟩
            have hg' : Nat.gcd p 0 = gcdF (l.take (k + 1)) := hg
            rw [← hg', Nat.gcd_zero_right]
    · have hk : k = l.length := by simp at h; omega
      subst hk
      exact fin1 (dint (by rw [List.take_length, gcdL_yes h2]))
end Go.Proofs.Ytlafnhpmhflnaaa.Q
