/- Sums of variables, put together and put in: what the program computes, plain laws, and that the functions say true. No condition. -/
import Derived.Test.YtlafnhpmhflnaaaMD
import Derived.Test.YtlafnhpmhflnaaaMB
import Derived.WalkKit
import Derived.Lib.Walk
import Derived.Lib.SliceRun
import Derived.Lib.AppendZerosOnto
import Derived.Test.YtlafnhpmhflnaaaMG
set_option linter.unusedVariables false
set_option linter.unusedSectionVars false
set_option linter.unnecessarySimpa false
set_option linter.unusedSimpArgs false
set_option maxRecDepth 100000
set_option maxHeartbeats 4000000
namespace Go.Proofs
open Go.RowKit Go.Lib
theorem Ytlafnhpmhflnaaa.grow_none (base : Option Addr) (w : World) : Calls Try.prog 64 #[.slice base 0 0, .int .i64 0] w fun e w' => e = .returned (.slice base 0 0) ∧ w' = w := by
  go_enter Try.func64, Try.ntmps64
  go_wp2
  go_ret
  exact ⟨rfl, rfl⟩
theorem Ytlafnhpmhflnaaa.grow_some (i0 : TypeInfo) (z : Value) (hi0 : Try.prog.info? 71 = some i0) (hz0 : i0.zero = some z) (hs0 : 0 < i0.size) (base : Option Addr) (n : Nat) (w : World) (hn : 0 < n) (hbig : n * i0.bytes ≤ 140737488355328) (h63 : n ≤ 4611686018427387904) :
    Calls Try.prog 64 #[.slice base 0 0, .int .i64 n] w fun e w' =>
      e = .returned (.slice (some ⟨w.heap.size, 0, none⟩) 0 (grownCap w n 0 71)) ∧
      w' = w.drew.alloc (.cells (([] : List Value).toArray ++ Builtin.zeroCells z.cells n ++ Builtin.zeroCells z.cells (grownCap w n 0 71 - n)) 71) := by
  have h1 : ¬ ((n : Int) < 0) := by omega
  have h3 : wrap64 ((n : Int) - ((0 : Int) - (0 : Int))) = (n : Int) := by unfold wrap64; omega
  have h4 : (n : Int) > 0 := by omega
  have hold : (Builtin.firstCells i0.size 0 (.slice base 0 0)).run Try.prog w.drew = .ok ([] : List Value).toArray w.drew := by
    cases base with
    | none => exact run_firstCells_none w.drew i0.size 0 0 0
    | some a => exact run_firstCells_some w.drew i0.size 0 a 0 0 [] (by simp) (fun j v hj => by simp at hj)
  have hrz : ∀ ty, (Builtin.append_ #[32, 3] ty #[.slice base 0 0, .int .i64 (n : Int)]).run Try.prog w =
      .ok (.slice (some ⟨w.heap.size, 0, none⟩) n (grownCap w n 0 71)) (w.drew.alloc (.cells (([] : List Value).toArray ++ Builtin.zeroCells z.cells n ++ Builtin.zeroCells z.cells (grownCap w n 0 71 - n)) 71)) := fun ty => by
    have h := Lib.run_append_grow_zeros w 32 3 ty 71 i0 z .i64 .i64 Try.underlying32 Try.underlying3 hi0 hz0 base 0 0 [] hold n (by omega) hs0 (by omega) (by omega)
      (by omega) (by rw [Nat.zero_add]; exact growslice_fits (by omega) (by omega))
    rw [Nat.zero_add] at h
    exact h
  have hGn : n ≤ grownCap w n 0 71 := grownCap_ge w _ _ _
  obtain ⟨G, hG⟩ : ∃ G, G = grownCap w n 0 71 := ⟨_, rfl⟩
  rw [← hG] at hrz hGn ⊢
  have hG63 : G ≤ 9223372036854775807 := by
    have := grownCap_le_maxLen w n 0 71 (by unfold maxLen; omega)
    rw [← hG] at this
    unfold maxLen at this
    omega
  clear hold hG
  go_enter Try.func64, Try.ntmps64
  cases base with
  | none =>
    go_wp2_with (at_builtin; refine Lib.wpList_append_run _ rfl _ _ _ _ rfl _ _ rfl rfl _ _ (hrz _) ?_)
    all_goals (go_ret; exact ⟨rfl, rfl⟩)
  | some a =>
    obtain ⟨ab, ao, asp⟩ := a
    go_wp2_with (at_builtin; refine Lib.wpList_append_run _ rfl _ _ _ _ rfl _ _ rfl rfl _ _ (hrz _) ?_)
    all_goals (go_ret; exact ⟨rfl, rfl⟩)
end Go.Proofs
namespace Go.Proofs.Ytlafnhpmhflnaaa.Q
open Go.RowKit
variable [Amb]
theorem term_info : ∃ i0 z, Try.prog.info? 71 = some i0 ∧ i0.zero = some z ∧ i0.size = 2 ∧ i0.bytes = 16 ∧ z.cells.size = 2 := by
  have h : ((Try.prog.info? 71).bind fun i => i.zero.bind fun z => some (i.size, i.bytes, z.cells.size)) = some (2, 16, 2) := by kernel_rfl
  simp only [Option.bind_eq_some_iff] at h
  obtain ⟨i, h1, z, h2, h3⟩ := h
  injection h3 with h3
  simp only [Prod.mk.injEq] at h3
  exact ⟨i, z, h1, h2, h3.1, h3.2.1, h3.2.2⟩
theorem grow_c (n : Nat) (hn : n < 1073741824) : PFun Try.prog 64 [.fsl [], iv n] [] (.gsl [] 0) [.tip 2 0] := by
  refine ⟨⟨_, Try.func64, by kernel_rfl, by kernel_rfl⟩, ?_⟩
  rintro G w φ vs hs ⟨u, us, rfl, ⟨A, rfl, _⟩, u2, us2, rfl, h2, h3⟩
  have h2 : u2 = .int .i64 n := h2
  have h3 : us2 = [] := h3
  subst h2; subst h3
  rcases Nat.eq_zero_or_pos n with h0 | h0
  · subst h0
    refine (Ytlafnhpmhflnaaa.grow_none (Addr0 A) w).mono ?_
    rintro e w' ⟨e1, rfl⟩
    exact ⟨_, .gsl [] 0, [.tip 2 0], G, setLoc φ 0 0 (A, 0), e1, ⟨rfl, rfl⟩, Nat.zero_le _, Sit.tip (H := []) hs 2 0 A, Goes.tip (H := []) hs (Goes.refl _ _ _ _) 2 0 A, ⟨A, 0, setLoc_same .., rfl, Nat.le_refl _, fun h => absurd rfl h⟩⟩
  · obtain ⟨i0, z, k1, k2, k3, k4, k5⟩ := term_info
    refine (Ytlafnhpmhflnaaa.grow_some i0 z k1 k2 (by omega) (Addr0 A) n w h0 (by rw [k4]; omega) (by omega)).mono ?_
    rintro e w' ⟨e1, rfl⟩
    obtain ⟨g, hg⟩ : ∃ g, grownCap w n 0 71 = g := ⟨_, rfl⟩
    have hge : n ≤ g := by rw [← hg]; exact grownCap_ge w _ _ _
    rw [hg] at e1 ⊢
    obtain ⟨cs, hcs⟩ : ∃ cs, ([] : List Value).toArray ++ Builtin.zeroCells z.cells n ++ Builtin.zeroCells z.cells (g - n) = cs := ⟨_, rfl⟩
    have hsz : cs.size = g * 2 := by
      rw [← hcs]
      simp only [Array.size_append, size_zeroCells, k5]
      simp; omega
    rw [hcs]
    have hφ : ∀ m, φ 0 m = none := hs.un 0 rfl
    have hG : ∀ j, G w.heap.size j = none := fun j => by
      cases hj : G w.heap.size j with
      | none => rfl
      | some v => have := hs.inv _ _ _ hj; simp [World.cell?] at this
    have add := Sit.add (H := hp []) hs.drew 0 0 g (.tip 2 0) (.cells cs 71) rfl
      ⟨some (w.heap.size, 0), g, setLoc_same .., Nat.zero_le _, fun m hm => by unfold setLoc; rw [if_neg (by omega)]; exact hφ m, fun _ => ⟨w.heap.size, 0, cs, _, (0, 0), rfl, World.alloc_heap_new w.drew _, by omega, fun j _ => hG j, Nat.le_refl _⟩⟩
      (fun b hb => by
        simp only [Owns, own] at hb
        rw [setLoc_same] at hb
        dsimp only at hb
        split at hb
        · injection hb with hb; exact hb.symm
        · cases hb)
    have hH : (fun i => if i = 0 then some (Ob.tip 2 0) else hp [] i) = hp [.tip 2 0] := by
      funext i
      cases i with
      | zero => rfl
      | succ i => simp [hp]
    rw [hH] at add
    exact ⟨_, .gsl [] 0, [.tip 2 0], G, _, e1, ⟨rfl, rfl⟩, Nat.zero_le _, add.1, (Goes.drew G w φ (hp [])).trans add.2, ⟨some (w.heap.size, 0), g, setLoc_same .., rfl, Nat.zero_le _, fun h => absurd rfl h⟩⟩
def slr (r : List (List D)) : List D := [.sl r]
theorem flat_snoc {L : List (List (List D))} {k : Nat} (h : k < L.length) : (L.take (k + 1)).flatten = (L.take k).flatten ++ L[k] := by rw [take_snoc L k h, List.flatten_append, List.flatten_cons, List.flatten_nil, List.append_nil]
theorem flat_le (L : List (List (List D))) (k : Nat) : (L.take k).flatten.length ≤ L.flatten.length := by
  have : L.flatten = (L.take k).flatten ++ (L.drop k).flatten := by rw [← List.flatten_append, List.take_append_drop]
  rw [this]; simp
theorem concat_c (L : List (List (List D))) (hl : L.length < 1073741824) (hr : ∀ r ∈ L, RL r 2) (hn : L.flatten.length < 1073741824) : PFun Try.prog 50 [.d (.sl (L.map slr))] [] (.d (.sl L.flatten)) [] := by
  refine fn_sem pok 36 0 Try.func50 (by kernel_rfl) rfl rfl rfl rfl ?_
  refine SWp.go pok (by kernel_rfl) ?_
  refine SWp.loop (fun k : Nat => k ≤ L.length) (fun k => ([(0, .d (.sl (L.map slr))), (3, iv (L.take k).flatten.length), (9, .d (.sl (L.map slr))), (10, iv (L.map slr).length), (11, iv k)], [])) (fun k => L.length - k) 0 (Nat.zero_le _) (Le.same ⟨rfl, rfl, rfl, rfl, rfl, trivial⟩) (fun k hk => ?_)
  refine SWp.go pok (by kernel_rfl) ?_
  have hle := flat_le L k
  refine brP_split (fun h => ?_) (fun h => ?_)
  · have hlt : k < L.length := by simpa using h
    have hsn := flat_snoc hlt
    have hle2 := flat_le L (k + 1)
    rw [hsn, List.length_append] at hle2
    have hw : IntKind.i64.wrap ((L.take k).flatten.length + L[k].length : Int) = ((L.take (k + 1)).flatten.length : Nat) := by
      rw [wrap_in (by unfold R64; omega), hsn, List.length_append]; omega
    refine PIdx.map (get_at hlt) ?_
    refine brP_false (by rw [hw]; simp) ?_
    exact ⟨k + 1, hlt, by omega, Le.same ⟨rfl, sint hw, rfl, rfl, sint (wrap_nat k (by omega)), trivial⟩⟩
  · have hk' : k = L.length := by simp at h; have hk : k ≤ L.length := hk; omega
    subst hk'
    rw [List.take_length]
    refine PFun.call (grow_c L.flatten.length hn) ?_
    refine SWp.loop (fun q : Nat × List (List D) => q.1 ≤ L.length ∧ q.2 = (L.take q.1).flatten) (fun q => ([(6, .gsl q.2 0), (25, .d (.sl (L.map slr))), (26, iv (L.map slr).length), (27, iv q.1)], [.tip 2 q.2.length])) (fun q => L.length - q.1) (0, []) ⟨Nat.zero_le _, by simp⟩ (Le.same ⟨rfl, rfl, rfl, rfl, trivial⟩) (fun q hq => ?_)
    obtain ⟨k, rows⟩ := q
    obtain ⟨hk, hr1⟩ := hq
    simp only at hk hr1
    refine SWp.go pok (by kernel_rfl) ?_
    refine brP_split (fun h => ?_) (fun h => ?_)
    · have hlt : k < L.length := by simpa using h
      have hsn := flat_snoc hlt
      have hle2 := flat_le L (k + 1)
      rw [hsn, List.length_append] at hle2
      have hrl : RL rows 2 := by
        rw [hr1]
        intro r hr2
        obtain ⟨q, hq, hrq⟩ := List.mem_flatten.1 hr2
        exact hr q (List.mem_of_mem_take hq) r hrq
      refine PIdx.map (get_at hlt) ?_
      refine ⟨⟨rfl, hrl, hr _ (List.getElem_mem hlt), by show (rows ++ L[k]).length ≤ 1073741824; rw [hr1, List.length_append]; omega⟩, ?_⟩
      exact ⟨(k + 1, rows ++ L[k]), ⟨hlt, by rw [hr1]; exact hsn.symm⟩, by show L.length - (k + 1) < L.length - k; omega, .inr ⟨[0], ⟨rfl, rfl⟩, rfl, rfl, rfl, rfl, sint (wrap_nat k (by omega)), trivial⟩⟩
    · have hk' : k = L.length := by simp at h; omega
      rw [hk', List.take_length] at hr1
      exact fin1 (by rw [hr1])
end Go.Proofs.Ytlafnhpmhflnaaa.Q

namespace Go.Proofs.Ytlafnhpmhflnaaa.Q
open Go.RowKit
variable [Amb]
theorem idxF_cases (v : Int) : ∀ (l : List Tm) (k : Nat), (idxF v k l = -1 ∧ ofF v l = 0) ∨ ∃ i, ∃ h : i < l.length, idxF v k l = ((k + i : Nat) : Int) ∧ l[i].var = v ∧ ofF v l = l[i].c
  | [], k => .inl ⟨rfl, rfl⟩
  | t :: r, k => by
    unfold idxF ofF
    by_cases h : t.var = v
    · rw [if_pos h, if_pos h]
      exact .inr ⟨0, by simp, by simp, h, rfl⟩
    · rw [if_neg h, if_neg h]
      rcases idxF_cases v r (k + 1) with ⟨h1, h2⟩ | ⟨i, hi, h1, h2, h3⟩
      · exact .inl ⟨h1, h2⟩
      · exact .inr ⟨i + 1, by simp; omega, by rw [h1]; congr 1; omega, by simpa using h2, by simpa using h3⟩
theorem okFrom_c {last : Int} : ∀ {l : List Tm}, okFrom last l = true → ∀ t ∈ l, t.c ≠ 0
  | [], _, t, ht => by simp at ht
  | u :: r, h, t, ht => by
    unfold okFrom at h
    split at h
    · cases h
    · rename_i hc
      rcases List.mem_cons.1 ht with e | e
      · subst e; exact fun e => hc (.inr e)
      · exact okFrom_c h t e
theorem rest_at {last v : Int} : ∀ {l : List Tm} {i : Nat} (h : i < l.length), okFrom last l = true → l[i].var = v → rest v l = l.take i ++ l.drop (i + 1)
  | [], i, h, _, _ => by simp at h
  | u :: r, 0, h, ho, hv => by
    unfold okFrom at ho
    split at ho
    · cases ho
    · have hvar := okFrom_var ho
      have hu : u.var = v := by simpa using hv
      have : rest v r = r := by
        unfold rest
        rw [List.filter_eq_self]
        intro t ht
        have := hvar t ht
        simp; omega
      unfold rest at this ⊢
      rw [List.filter_cons, if_neg (by simp [hu]), this]; rfl
  | u :: r, i + 1, h, ho, hv => by
    unfold okFrom at ho
    split at ho
    · cases ho
    · have hvar := okFrom_var ho
      have hi : i < r.length := by simpa using h
      have hv' : r[i].var = v := by simpa using hv
      have hu : ¬ u.var = v := by have := hvar r[i] (List.getElem_mem hi); omega
      have ih := rest_at hi ho hv'
      unfold rest at ih ⊢
      rw [List.filter_cons, if_pos (by simpa using hu), ih]; rfl
theorem linPut_c (a : Ln) (v : Int) (b : Ln) (ha : a.ok) (hb : b.ok) : PFun Try.prog 26 [a.v, iv v, b.v] [] (lb (putL a v b)) [] := by
  refine fn_sem pok 61 0 Try.func26 (by kernel_rfl) rfl rfl rfl rfl ?_
  refine SWp.go pok (by kernel_rfl) ?_
  refine PFun.call (linIs_c a) ?_
  refine brP_split (fun h => ?_) (fun h => ?_)
  · have h : ¬ isB a.l = true := by simpa using h
    exact fin1 (by unfold putL; rw [if_neg (fun h' => h h'.1)]; rfl)
  have h1 : isB a.l = true := by simpa using h
  refine PFun.call (linIs_c b) ?_
  refine brP_split (fun h => ?_) (fun h => ?_)
  · have h : ¬ isB b.l = true := by simpa using h
    exact fin1 (by unfold putL; rw [if_neg (fun h' => h h'.2)]; rfl)
  have h2 : isB b.l = true := by simpa using h
  have hl := isB_len h1
  have hip := idxPut_c a.l v (by omega)
  rcases idxF_cases v a.l 0 with ⟨h3, h4⟩ | ⟨i, hi, h3, h4, h5⟩
  · rw [h3] at hip
    refine PFun.call hip ?_
    exact fin1 (by unfold putL; rw [if_pos ⟨h1, h2⟩, if_pos h4]; rfl)
  rw [Nat.zero_add] at h3
  rw [h3] at hip
  refine PFun.call hip ?_
  have hwr : IntKind.i64.wrap ((i : Int) + 1) = ((i + 1 : Nat) : Int) := wrap_nat i (by omega)
  have hRL : ∀ r ∈ a.l.map Tm.e, r.length = 2 := fun r hr => by obtain ⟨t, _, rfl⟩ := List.mem_map.1 hr; rfl
  refine ⟨⟨by omega, by simp; omega⟩, hRL, ?_⟩
  refine ⟨⟨by rw [hwr]; omega, by rw [hwr]; simp; omega⟩, hRL, ?_⟩
  have e2 : (a.l.map Tm.e).drop (IntKind.i64.wrap ((i : Int) + 1)).toNat = (a.l.drop (i + 1)).map Tm.e := by rw [hwr]; simp
  have hcc := concat_c [(a.l.map Tm.e).take i, (a.l.map Tm.e).drop (IntKind.i64.wrap ((i : Int) + 1)).toNat] (by simp) (fun r hr => by
    simp only [List.mem_cons, List.not_mem_nil, or_false] at hr
    rcases hr with rfl | rfl
    · exact fun q hq => hRL q (List.mem_of_mem_take hq)
    · exact fun q hq => hRL q (List.mem_of_mem_drop hq)) (by rw [e2]; simp; omega)
  have hor := rest_at (v := v) hi (isB_ok h1) h4
  have hflat : [(a.l.map Tm.e).take i, (a.l.map Tm.e).drop (IntKind.i64.wrap ((i : Int) + 1)).toNat].flatten = (rest v a.l).map Tm.e := by
    rw [e2, hor, ← List.map_take]; simp
  rw [hflat] at hcc
  refine ⟨_, _, hcc, ?_⟩
  refine PIdx.map (get_at hi) ?_
  refine ⟨_, _, linScale_c b a.l[i].c hb (ha.2 _ (List.getElem_mem hi)).2, ?_⟩
  have hc0 : ¬ a.l[i].c = 0 := okFrom_c (isB_ok h1) _ (List.getElem_mem hi)
  have hp : putL a v b = if (scaleS b a.l[i].c).2 = true then addL ⟨a.k, rest v a.l⟩ (scaleS b a.l[i].c).1 else noLn := by
    unfold putL; rw [if_pos ⟨h1, h2⟩, h5, if_neg hc0]
  refine brP_split (fun h => ?_) (fun h => ?_)
  · have h : ¬ (scaleS b a.l[i].c).2 = true := by simpa using h
    exact fin1 (by rw [hp, if_neg h]; rfl)
  have h : (scaleS b a.l[i].c).2 = true := by simpa using h
  refine PFun.call (linAdd_c ⟨a.k, rest v a.l⟩ _ ⟨ha.1, rest_ok ha.2⟩ (scaleS_ok hb)) ?_
  exact fin1 (by rw [hp, if_pos h]; rfl)
end Go.Proofs.Ytlafnhpmhflnaaa.Q

namespace Go.Proofs.Ytlafnhpmhflnaaa.Q
open Go.RowKit
variable [Amb]
theorem addL_len (a b : Ln) : (addL a b).1.l.length ≤ 40 := by
  unfold addL
  split
  · split
    · split
      · rename_i h; exact h
      · exact Nat.zero_le _
    · exact Nat.zero_le _
  · exact Nat.zero_le _
theorem scaleT_len {k : Int} : ∀ {l r : List Tm}, scaleT k l = some r → r.length ≤ l.length
  | [], r, h => by simp [scaleT] at h; subst h; simp
  | t :: l, r, h => by
    unfold scaleT at h
    split at h
    · rw [Option.map_eq_some_iff] at h
      obtain ⟨q, h1, h2⟩ := h
      have ih := scaleT_len h1
      split at h2
      · subst h2; simp; omega
      · subst h2; simp; omega
    · cases h
theorem scaleS_len (a : Ln) (k : Int) : (scaleS a k).1.l.length ≤ a.l.length := by
  unfold scaleS
  split
  · split
    · rename_i l hl; exact scaleT_len hl
    · exact Nat.zero_le _
  · exact Nat.zero_le _
theorem putL_len (a : Ln) (v : Int) (b : Ln) : (putL a v b).1.l.length ≤ a.l.length + 40 := by
  unfold putL
  split
  · split
    · simp
    · split
      · have := addL_len ⟨a.k, rest v a.l⟩ (scaleS b (ofF v a.l)).1; omega
      · exact Nat.zero_le _
  · exact Nat.zero_le _
theorem linSums_t (x y : Ln) (k v : Int) (hx : x.ok) (hy : y.ok) (hk : R64 k) (hv : R64 v) : PFun Try.prog 6 [x.v, y.v, iv k, iv v] [] (.d (.bool true)) [] := by
  refine fn_sem pok 106 0 Try.func6 (by kernel_rfl) rfl rfl rfl rfl ?_
  refine SWp.go pok (by kernel_rfl) ?_
  refine PFun.call (small_c x) ?_
  refine brP_split (fun h => ?_) (fun h => ?_)
  · exact PFun.call live_c (fin1 rfl)
  have hl : x.l.length ≤ 100 := by simpa using h
  refine PFun.call (small_c y) ?_
  refine brP_split (fun h => ?_) (fun h => ?_)
  · exact PFun.call live_c (fin1 rfl)
  have hl2 : y.l.length ≤ 100 := by simpa using h
  have hra := refAddL_c x y hx hy
  rw [refAddL_eq _ _ hx hy] at hra
  have l1 := addL_len x y
  have l2 := scaleS_len x k
  have l3 := putL_len x v y
  have s1 := Same_c (addL x y).1 (addL x y).1 (by omega)
  have s2 := Same_c (scaleS x k).1 (scaleS x k).1 (by omega)
  have s3 := Same_c (putL x v y).1 (putL x v y).1 (by omega)
  rw [sameS_refl] at s1 s2 s3
  refine PFun.call (linAdd_c x y hx hy) ?_
  refine PFun.call hra ?_
  refine PFun.call (linScale_c x k hx hk) ?_
  refine PFun.call (refScale_c x k hx hk) ?_
  refine PFun.call (linPut_c x v y hx hy) ?_
  refine PFun.call (refPut_c x v y hx hy) ?_
  refine ⟨_, _, linIs_c x, ?_⟩
  refine ⟨_, _, refIs_c x, ?_⟩
  refine brP_true (by simp) ?_
  refine ⟨_, _, s1, ?_⟩
  refine brP_true (by simp) ?_
  refine ⟨_, _, s2, ?_⟩
  refine brP_true (by simp) ?_
  refine ⟨_, _, s3, ?_⟩
  refine brP_true (by simp) ?_
  refine ⟨_, _, live_c, ?_⟩
  exact fin1 rfl
end Go.Proofs.Ytlafnhpmhflnaaa.Q

namespace Go.Proofs.Ytlafnhpmhflnaaa.Q
open Go.RowKit
variable [Amb]
theorem wT_cons (vals : List Int) (t : Tm) (l : List Tm) : wT vals (t :: l) = t.c * vals.getD t.var.toNat 0 + wT vals l := by simp [wT]
theorem wT_append (vals : List Int) (a b : List Tm) : wT vals (a ++ b) = wT vals a + wT vals b := by simp [wT]
theorem wT_con (vals : List Int) (t : Tm) (l : List Tm) : wT vals (con t l) = t.c * vals.getD t.var.toNat 0 + wT vals l := by
  unfold con
  split
  · rename_i h; rw [h]; simp
  · exact wT_cons vals t l
theorem wT_addT (vals : List Int) : ∀ (n : Nat) (x y r : List Tm), x.length + y.length < n → addT x y = some r → wT vals r = wT vals x + wT vals y
  | 0, x, y, r, hn, _ => by omega
  | _ + 1, [], [], r, _, h => by rw [addT] at h; injection h with h; subst h; simp [wT]
  | n + 1, [], u :: y, r, hn, h => by
    rw [addT_ny, Option.map_eq_some_iff] at h
    obtain ⟨q, h1, rfl⟩ := h
    have := wT_addT vals n [] y q (by simp at hn ⊢; omega) h1
    rw [wT_con, this, wT_cons]; omega
  | n + 1, t :: x, [], r, hn, h => by
    rw [addT_xn, Option.map_eq_some_iff] at h
    obtain ⟨q, h1, rfl⟩ := h
    have := wT_addT vals n x [] q (by simp at hn ⊢; omega) h1
    rw [wT_con, this, wT_cons]; omega
  | n + 1, t :: x, u :: y, r, hn, h => by
    by_cases c1 : t.var < u.var
    · rw [addT_lt x y c1, Option.map_eq_some_iff] at h
      obtain ⟨q, h1, rfl⟩ := h
      have := wT_addT vals n x (u :: y) q (by simp at hn ⊢; omega) h1
      rw [wT_con, this, wT_cons vals t]; omega
    by_cases c2 : u.var < t.var
    · rw [addT_gt x y c2, Option.map_eq_some_iff] at h
      obtain ⟨q, h1, rfl⟩ := h
      have := wT_addT vals n (t :: x) y q (by simp at hn ⊢; omega) h1
      rw [wT_con, this, wT_cons vals u]; omega
    by_cases c3 : (addS t.c u.c).2 = true
    · rw [addT_eq x y c1 c2 c3, Option.map_eq_some_iff] at h
      obtain ⟨q, h1, rfl⟩ := h
      have := wT_addT vals n x y q (by simp at hn ⊢; omega) h1
      have e := (told_true c3).2
      have ev : t.var = u.var := by omega
      rw [wT_con, this, wT_cons, wT_cons]
      unfold addS
      simp only [e, ev, Int.add_mul]
      omega
    · rw [addT_no x y c1 c2 c3] at h; cases h
theorem addL_val {a b : Ln} {vals : List Int} (h : (addL a b).2 = true) : (addL a b).1.k + wT vals (addL a b).1.l = (a.k + wT vals a.l) + (b.k + wT vals b.l) := by
  unfold addL at h ⊢
  split at h
  · rename_i hc
    rw [if_pos hc]
    have e := (told_true hc.2.2).2
    split at h
    · rename_i l hl
      split at h
      · rename_i h4
        rw [if_pos h4]
        have := wT_addT vals _ _ _ _ (Nat.lt_succ_self _) hl
        unfold addS
        simp only [e, this]
        omega
      · cases h
    · cases h
  · cases h
theorem wT_scaleT (vals : List Int) (k : Int) : ∀ {l r : List Tm}, scaleT k l = some r → wT vals r = k * wT vals l
  | [], r, h => by simp [scaleT] at h; subst h; simp [wT]
  | t :: l, r, h => by
    unfold scaleT at h
    split at h
    · rename_i hm
      have e := (told_true hm).2
      rw [Option.map_eq_some_iff] at h
      obtain ⟨q, h1, h2⟩ := h
      have ih := wT_scaleT vals k h1
      have em : (mulS t.c k).1 = t.c * k := e
      rw [em] at h2
      have key : wT vals r = t.c * k * vals.getD t.var.toNat 0 + wT vals q := by
        split at h2
        · rename_i h0; subst h2; rw [h0]; simp
        · subst h2; exact wT_cons vals _ _
      rw [key, ih, wT_cons, Int.mul_add]
      congr 1
      rw [Int.mul_comm t.c k, Int.mul_assoc]
    · cases h
theorem scaleS_val {a : Ln} {k : Int} {vals : List Int} (h : (scaleS a k).2 = true) : (scaleS a k).1.k + wT vals (scaleS a k).1.l = k * (a.k + wT vals a.l) := by
  unfold scaleS at h ⊢
  split at h
  · rename_i hc
    rw [if_pos hc]
    have e : (mulS a.k k).1 = a.k * k := (told_true hc.1).2
    split at h
    · rename_i l hl
      dsimp only
      rw [wT_scaleT vals k hl, e, Int.mul_add, Int.mul_comm]
    · cases h
  · cases h
theorem getD_set_ne {l : List Int} {i j : Nat} {y : Int} (h : i ≠ j) : (l.set i y).getD j 0 = l.getD j 0 := by
  simp [List.getD_eq_getElem?_getD, List.getElem?_set, h]
theorem wT_set {vals : List Int} {v : Nat} {y : Int} : ∀ {l : List Tm}, (∀ t ∈ l, 0 ≤ t.var ∧ t.var ≠ v) → wT (vals.set v y) l = wT vals l
  | [], _ => rfl
  | t :: l, h => by
    obtain ⟨h1, h2⟩ := h t List.mem_cons_self
    rw [wT_cons, wT_cons, wT_set (fun u hu => h u (List.mem_cons_of_mem _ hu)), getD_set_ne (by omega)]
theorem add_law {a b : Ln} {vals : List Int} (h : (addL a b).2 = true) (ha : (valueS a vals).2 = true) (hb : (valueS b vals).2 = true) (hc : (valueS (addL a b).1 vals).2 = true) (hs : (addS (valueS a vals).1 (valueS b vals).1).2 = true) :
    (valueS (addL a b).1 vals).1 = (addS (valueS a vals).1 (valueS b vals).1).1 := by
  have e : (addS (valueS a vals).1 (valueS b vals).1).1 = (valueS a vals).1 + (valueS b vals).1 := (told_true hs).2
  rw [e, (valueS_sum hc).2, (valueS_sum ha).2, (valueS_sum hb).2, addL_val h]
theorem scale_law {a : Ln} {k : Int} {vals : List Int} (h : (scaleS a k).2 = true) (ha : (valueS a vals).2 = true) (hc : (valueS (scaleS a k).1 vals).2 = true) (hs : (mulS (valueS a vals).1 k).2 = true) :
    (valueS (scaleS a k).1 vals).1 = (mulS (valueS a vals).1 k).1 := by
  have e : (mulS (valueS a vals).1 k).1 = (valueS a vals).1 * k := (told_true hs).2
  rw [e, (valueS_sum hc).2, (valueS_sum ha).2, scaleS_val h, Int.mul_comm]
theorem put_law {a b : Ln} {v : Nat} {vals : List Int} (hv : v < vals.length) (h : (putL a v b).2 = true) (hb : (valueS b vals).2 = true) (hz : (valueS (putL a v b).1 vals).2 = true) (hr : (valueS a (vals.set v (valueS b vals).1)).2 = true) :
    (valueS (putL a v b).1 vals).1 = (valueS a (vals.set v (valueS b vals).1)).1 := by
  rw [(valueS_sum hz).2, (valueS_sum hr).2]
  unfold putL at h ⊢
  split at h
  · rename_i hB
    rw [if_pos hB]
    have hpos := okFrom_var (isB_ok hB.1)
    rcases idxF_cases v a.l 0 with ⟨h3, h4⟩ | ⟨i, hi, h3, h4, h5⟩
    · rw [if_pos h4]
      rw [wT_set fun t ht => ⟨by have := hpos t ht; omega, fun e => ?_⟩]
      -- the variable stands nowhere
      have : ∀ (l : List Tm) (k : Nat), idxF v k l = -1 → ∀ t ∈ l, t.var ≠ v := by
        intro l
        induction l with
        | nil => intro k _ t ht; simp at ht
        | cons u r ih =>
          intro k hk t ht
          unfold idxF at hk
          split at hk
          · omega
          · rename_i hu
            rcases List.mem_cons.1 ht with e | e
            · subst e; exact hu
            · exact ih (k + 1) hk t e
      exact this a.l 0 h3 t ht e
    · have hc0 : ¬ ofF v a.l = 0 := by rw [h5]; exact okFrom_c (isB_ok hB.1) _ (List.getElem_mem hi)
      rw [if_neg hc0] at h ⊢
      split at h
      · rename_i hs
        rw [if_pos hs]
        have hor := rest_at (v := (v : Int)) hi (isB_ok hB.1) h4
        have hrest : ∀ t ∈ rest (v : Int) a.l, 0 ≤ t.var ∧ t.var ≠ v := fun t ht => by
          obtain ⟨h6, h7⟩ := List.mem_filter.1 ht
          have := hpos t h6
          exact ⟨by omega, by simpa using h7⟩
        have hal : a.l = a.l.take i ++ a.l[i] :: a.l.drop (i + 1) := by
          rw [← List.drop_eq_getElem_cons hi, List.take_append_drop]
        have e1 : ∀ ws : List Int, wT ws a.l = wT ws (rest (v : Int) a.l) + a.l[i].c * ws.getD v 0 := fun ws => by
          have e : wT ws a.l = wT ws (a.l.take i ++ a.l[i] :: a.l.drop (i + 1)) := congrArg (wT ws) hal
          rw [e, hor, wT_append, wT_append, wT_cons, h4]
          simp only [Int.toNat_natCast]
          omega
        rw [addL_val h, scaleS_val hs, e1, wT_set hrest, h5, ← (valueS_sum hb).2]
        have : (vals.set v (valueS b vals).1).getD v 0 = (valueS b vals).1 := by simp [List.getD_eq_getElem?_getD, hv]
        rw [this]
        dsimp only
        omega
      · cases h
  · cases h
end Go.Proofs.Ytlafnhpmhflnaaa.Q

namespace Go.Proofs.Ytlafnhpmhflnaaa.Q
open Go.RowKit
variable [Amb]
theorem Le.keep {k : Md} {ρ0 ρ : Env} {H0 H : List Ob} (ids : List Nat) (h1 : nodupB ids = true ∧ ids.take k.k = List.range k.k) (h2 : obsAt H (pos ids) ids = some H0) (h3 : Sub (pos ids) ρ ρ0) : Le k ρ0 H0 ρ H := .inr ⟨ids, h1, h2, h3⟩
theorem putL_ok {a b : Ln} {v : Int} (ha : a.ok) (hb : b.ok) : (putL a v b).1.ok := by
  unfold putL
  split
  · split
    · exact ha
    · split
      · exact addL_ok ⟨ha.1, rest_ok ha.2⟩ (scaleS_ok hb)
      · exact noLn_ok
  · exact noLn_ok
theorem linPuts_t (x y : Ln) (k v : Int) (vals : List Int) (hx : x.ok) (hy : y.ok) (hk : R64 k) (hv : R64 v) (hvs : I64 vals) : PFun Try.prog 7 [x.v, y.v, iv k, iv v, ils vals] [] (.d (.bool true)) [] := by
  refine fn_sem pok 186 0 Try.func7 (by kernel_rfl) rfl rfl rfl rfl ?_
  refine SWp.then pok (by kernel_rfl) ?_
  refine SWp.then pok (by kernel_rfl) ?_
  refine PFun.call (small_c x) ?_
  refine brP_split (fun h => ?_) (fun h => ?_)
  · exact PFun.call live_c (fin1 rfl)
  have hl : x.l.length ≤ 100 := by simpa using h
  refine PFun.call (small_c y) ?_
  refine brP_split (fun h => ?_) (fun h => ?_)
  · exact PFun.call live_c (fin1 rfl)
  have hl2 : y.l.length ≤ 100 := by simpa using h
  refine brP_split (fun h => ?_) (fun h => ?_)
  · exact PFun.call live_c (fin1 rfl)
  have hvl : vals.length ≤ 100 := by simp at h; omega
  have hao := addL_ok hx hy
  have hso := scaleS_ok (k := k) hx
  have hva := valueS_r x vals hx.1
  have hvb := valueS_r y vals hy.1
  refine SWp.then pok (by kernel_rfl) ?_
  refine PFun.call (linValue_c x vals hx hvs) ?_
  refine SWp.then pok (by kernel_rfl) ?_
  refine PFun.call (linValue_c y vals hy hvs) ?_
  refine SWp.then pok (by kernel_rfl) ?_
  refine PFun.call (linAdd_c x y hx hy) ?_
  refine SWp.then pok (by kernel_rfl) ?_
  refine PFun.call (linValue_c (addL x y).1 vals hao hvs) ?_
  refine SWp.then pok (by kernel_rfl) ?_
  refine PFun.call (refAdd_c _ _ hva hvb) ?_
  refine SWp.cut pok [(2, iv k), (3, iv v), (4, ils vals), (5, .ptr 0 0), (6, .ptr 1 0), (11, iv (valueS x vals).1), (12, .d (.bool (valueS x vals).2)), (13, iv (valueS y vals).1), (14, .d (.bool (valueS y vals).2))]
    [.box [iv x.k, .d (.sl (x.l.map Tm.e))], .box [iv y.k, .d (.sl (y.l.map Tm.e))]] (by kernel_rfl) ?_ ?_
  · refine brP_split (fun h1 => ?_) (fun h1 => ?_)
    rotate_left
    · repeat refine brP_false h1 ?_
      refine Le.keep [0, 1] ⟨rfl, rfl⟩ ?_ ?_
      · exact rfl
      · exact ⟨rfl, rfl, rfl, rfl, rfl, rfl, rfl, rfl, rfl, trivial⟩
    repeat refine brP_true h1 ?_
    refine brP_split (fun h2 => ?_) (fun h2 => ?_)
    rotate_left
    · repeat refine brP_false h2 ?_
      refine Le.keep [0, 1] ⟨rfl, rfl⟩ ?_ ?_
      · exact rfl
      · exact ⟨rfl, rfl, rfl, rfl, rfl, rfl, rfl, rfl, rfl, trivial⟩
    repeat refine brP_true h2 ?_
    refine brP_split (fun h3 => ?_) (fun h3 => ?_)
    rotate_left
    · repeat refine brP_false h3 ?_
      refine Le.keep [0, 1] ⟨rfl, rfl⟩ ?_ ?_
      · exact rfl
      · exact ⟨rfl, rfl, rfl, rfl, rfl, rfl, rfl, rfl, rfl, trivial⟩
    repeat refine brP_true h3 ?_
    refine brP_split (fun h4 => ?_) (fun h4 => ?_)
    rotate_left
    · repeat refine brP_false h4 ?_
      refine Le.keep [0, 1] ⟨rfl, rfl⟩ ?_ ?_
      · exact rfl
      · exact ⟨rfl, rfl, rfl, rfl, rfl, rfl, rfl, rfl, rfl, trivial⟩
    repeat refine brP_true h4 ?_
    refine brP_split (fun h5 => ?_) (fun h5 => ?_)
    rotate_left
    · repeat refine brP_false h5 ?_
      refine Le.keep [0, 1] ⟨rfl, rfl⟩ ?_ ?_
      · exact rfl
      · exact ⟨rfl, rfl, rfl, rfl, rfl, rfl, rfl, rfl, rfl, trivial⟩
    repeat refine brP_true h5 ?_
    refine brP_false (by simpa using add_law h1 h2 h3 h4 h5) ?_
    repeat refine brP_true h5 ?_
    refine Le.keep [0, 1] ⟨rfl, rfl⟩ ?_ ?_
    · exact rfl
    · exact ⟨rfl, rfl, rfl, rfl, rfl, rfl, rfl, rfl, rfl, trivial⟩
  refine SWp.then pok (by kernel_rfl) ?_
  refine PFun.call (linScale_c x k hx hk) ?_
  refine SWp.then pok (by kernel_rfl) ?_
  refine PFun.call (linValue_c (scaleS x k).1 vals hso hvs) ?_
  refine SWp.then pok (by kernel_rfl) ?_
  refine PFun.call (refMul_c _ _ hva hk) ?_
  refine SWp.cut pok [(2, iv k), (3, iv v), (4, ils vals), (5, .ptr 0 0), (6, .ptr 1 0), (11, iv (valueS x vals).1), (12, .d (.bool (valueS x vals).2)), (13, iv (valueS y vals).1), (14, .d (.bool (valueS y vals).2))]
    [.box [iv x.k, .d (.sl (x.l.map Tm.e))], .box [iv y.k, .d (.sl (y.l.map Tm.e))]] (by kernel_rfl) ?_ ?_
  · refine brP_split (fun h1 => ?_) (fun h1 => ?_)
    rotate_left
    · repeat refine brP_false h1 ?_
      refine Le.keep [0, 1] ⟨rfl, rfl⟩ ?_ ?_
      · exact rfl
      · exact ⟨rfl, rfl, rfl, rfl, rfl, rfl, rfl, rfl, rfl, trivial⟩
    repeat refine brP_true h1 ?_
    refine brP_split (fun h2 => ?_) (fun h2 => ?_)
    rotate_left
    · repeat refine brP_false h2 ?_
      refine Le.keep [0, 1] ⟨rfl, rfl⟩ ?_ ?_
      · exact rfl
      · exact ⟨rfl, rfl, rfl, rfl, rfl, rfl, rfl, rfl, rfl, trivial⟩
    repeat refine brP_true h2 ?_
    refine brP_split (fun h3 => ?_) (fun h3 => ?_)
    rotate_left
    · repeat refine brP_false h3 ?_
      refine Le.keep [0, 1] ⟨rfl, rfl⟩ ?_ ?_
      · exact rfl
      · exact ⟨rfl, rfl, rfl, rfl, rfl, rfl, rfl, rfl, rfl, trivial⟩
    repeat refine brP_true h3 ?_
    refine brP_split (fun h4 => ?_) (fun h4 => ?_)
    rotate_left
    · repeat refine brP_false h4 ?_
      refine Le.keep [0, 1] ⟨rfl, rfl⟩ ?_ ?_
      · exact rfl
      · exact ⟨rfl, rfl, rfl, rfl, rfl, rfl, rfl, rfl, rfl, trivial⟩
    repeat refine brP_true h4 ?_
    refine brP_false (by simpa using scale_law h1 h2 h3 h4) ?_
    repeat refine brP_true h4 ?_
    refine Le.keep [0, 1] ⟨rfl, rfl⟩ ?_ ?_
    · exact rfl
    · exact ⟨rfl, rfl, rfl, rfl, rfl, rfl, rfl, rfl, rfl, trivial⟩
  refine SWp.then pok (by kernel_rfl) ?_
  refine brP_split (fun h => ?_) (fun h => ?_)
  · exact PFun.call live_c (fin1 rfl)
  have hv0 : 0 ≤ v := by simp at h; omega
  refine brP_split (fun h => ?_) (fun h => ?_)
  · exact PFun.call live_c (fin1 rfl)
  have hv1 : v < vals.length := by simp at h; omega
  refine brP_split (fun h => ?_) (fun h => ?_)
  · exact PFun.call live_c (fin1 rfl)
  have hf : (valueS y vals).2 = true := by simpa using h
  obtain ⟨m, rfl⟩ := Int.eq_ofNat_of_zero_le hv0
  have hm : m < vals.length := by omega
  have hpo := putL_ok (v := (m : Int)) hx hy
  refine SWp.then pok (by kernel_rfl) ?_
  refine PFun.call (linPut_c x m y hx hy) ?_
  refine SWp.then pok (by kernel_rfl) ?_
  refine .inr ⟨⟨fun r hr => by simp at hr, fun r hr => by obtain ⟨_, _, rfl⟩ := List.mem_map.1 hr; rfl, by simp; omega, by intro e; rw [List.map_eq_nil_iff] at e; rw [e] at hm; simp at hm⟩, ?_⟩
  refine SWp.then pok (by kernel_rfl) ?_
  refine ⟨by simp; omega, ?_⟩
  refine ⟨ic vals[m], by simp [hm], ?_⟩
  refine SWp.then pok (by kernel_rfl) ?_
  refine PFun.call (linValue_c (putL x m y).1 vals hpo hvs) ?_
  refine SWp.then pok (by kernel_rfl) ?_
  have hset : ([] ++ vals.map ic).set (0 + m) [.int .i64 (valueS y vals).1] = (vals.set m (valueS y vals).1).map ic := by
    rw [Nat.zero_add, List.nil_append, List.map_set]; rfl
  have hpi : I64 (vals.set m (valueS y vals).1) := fun n hn => by
    rcases List.mem_or_eq_of_mem_set hn with h | h
    · exact hvs n h
    · rw [h]; exact hvb
  refine PCalls.freeze (e := 1) (rows := (vals.set m (valueS y vals).1).map ic) 1 0 (congrArg (fun n => some (V.arr 0 0 n)) (by simp)) (congrArg (fun r => some (Ob.parr 1 r)) hset) ?_
  refine PFun.frame (linValue_c x (vals.set m (valueS y vals).1) hx hpi) rfl rfl ?_
  refine SWp.go pok (by kernel_rfl) ?_
  refine brP_split (fun h1 => ?_) (fun h1 => ?_)
  · repeat refine brP_true h1 ?_
    exact PFun.call live_c (fin1 rfl)
  repeat refine brP_false h1 ?_
  refine brP_split (fun h2 => ?_) (fun h2 => ?_)
  · repeat refine brP_true h2 ?_
    exact PFun.call live_c (fin1 rfl)
  repeat refine brP_false h2 ?_
  refine brP_split (fun h3 => ?_) (fun h3 => ?_)
  · repeat refine brP_true h3 ?_
    exact PFun.call live_c (fin1 rfl)
  repeat refine brP_false h3 ?_
  have law := put_law hm (show (putL x m y).2 = true by simpa using h1) hf (show (valueS (putL x m y).1 vals).2 = true by simpa using h2) (show (valueS x (vals.set m (valueS y vals).1)).2 = true by simpa using h3)
  refine brP_true (by simpa using law) ?_
  repeat refine brP_false h3 ?_
  exact PFun.call live_c (fin1 rfl)
end Go.Proofs.Ytlafnhpmhflnaaa.Q
