/- Expressions as texts and their depth, in the reference. No condition. -/
import Derived.Test.YtmflfcbebeikcaaGreatDoorMF
import Derived.Test.YtmflfcbebeikcaaGreatDoorME
set_option linter.unusedVariables false
set_option linter.unusedSectionVars false
set_option linter.unnecessarySimpa false
set_option linter.unusedSimpArgs false
set_option maxRecDepth 100000
set_option maxHeartbeats 4000000
namespace Go.Proofs.YtmflfcbebeikcaaGreatDoor.Q
open Go.RowKit
variable [Amb] [Pow]
theorem refLevel_c (op : Int) : PFun Tryz.prog 96 [iv op] [] (iv (levelS op)) [] := by
  refine fn_sem pok 26 0 Tryz.func96 (by kernel_rfl) rfl rfl rfl rfl ?_
  refine SWp.go pok (by kernel_rfl) ?_
  unfold levelS
  repeat' refine brP_split (fun h => ?_) (fun h => ?_)
  all_goals
    refine fin1 (dint ?_)
    simp at *
    try omega
theorem refSides_c (op : Int) (h1 : 8 ≤ op) (h2 : op ≤ 17) : PFun Tryz.prog 97 [iv op] [] (.tup [iv (leftS op), iv (rightS op)]) [] := by
  have hop : op = 8 ∨ op = 9 ∨ op = 10 ∨ op = 11 ∨ op = 12 ∨ op = 13 ∨ op = 14 ∨ op = 15 ∨ op = 16 ∨ op = 17 := by omega
  refine fn_sem pok 17 0 Tryz.func97 (by kernel_rfl) rfl rfl rfl rfl ?_
  rcases hop with rfl | rfl | rfl | rfl | rfl | rfl | rfl | rfl | rfl | rfl
  all_goals
    refine SWp.go pok (by kernel_rfl) ?_
    exact ⟨rfl, rfl⟩
theorem refSign_c (op : Int) (h1 : 8 ≤ op) (h2 : op ≤ 17) : PFun Tryz.prog 131 [iv op] [] (sv' (signOf op)) [] := by
  have hop : op = 8 ∨ op = 9 ∨ op = 10 ∨ op = 11 ∨ op = 12 ∨ op = 13 ∨ op = 14 ∨ op = 15 ∨ op = 16 ∨ op = 17 := by omega
  refine fn_sem pok 10 0 Tryz.func131 (by kernel_rfl) rfl rfl rfl rfl ?_
  rcases hop with rfl | rfl | rfl | rfl | rfl | rfl | rfl | rfl | rfl | rfl
  · refine SWp.go pok (by kernel_rfl) ?_
    exact PIdx.at' (i := 0) rfl rfl (fin1 rfl)
  · refine SWp.go pok (by kernel_rfl) ?_
    exact PIdx.at' (i := 1) rfl rfl (fin1 rfl)
  · refine SWp.go pok (by kernel_rfl) ?_
    exact PIdx.at' (i := 2) rfl rfl (fin1 rfl)
  · refine SWp.go pok (by kernel_rfl) ?_
    exact PIdx.at' (i := 3) rfl rfl (fin1 rfl)
  · refine SWp.go pok (by kernel_rfl) ?_
    exact PIdx.at' (i := 4) rfl rfl (fin1 rfl)
  · refine SWp.go pok (by kernel_rfl) ?_
    exact PIdx.at' (i := 5) rfl rfl (fin1 rfl)
  · refine SWp.go pok (by kernel_rfl) ?_
    exact PIdx.at' (i := 6) rfl rfl (fin1 rfl)
  · refine SWp.go pok (by kernel_rfl) ?_
    exact PIdx.at' (i := 7) rfl rfl (fin1 rfl)
  · refine SWp.go pok (by kernel_rfl) ?_
    exact PIdx.at' (i := 8) rfl rfl (fin1 rfl)
  · refine SWp.go pok (by kernel_rfl) ?_
    exact PIdx.at' (i := 9) rfl rfl (fin1 rfl)
theorem dec_step {m : Nat} (h : 0 < m) : Lib.decDigits m = (if m / 10 = 0 then [] else Lib.decDigits (m / 10)) ++ [UInt8.ofNat (48 + m % 10)] := by
  rw [Lib.decDigits]
  by_cases h1 : m < 10
  · rw [dif_pos h1, if_pos (by omega)]
    have : m % 10 = m := by omega
    rw [this]; rfl
  · rw [dif_neg h1, if_neg (by omega)]
theorem dec_len (n : Nat) : (Lib.decDigits n).length ≤ n / 10 + 1 := by
  induction n using Nat.strongRecOn with
  | _ n ih =>
    rw [Lib.decDigits]
    by_cases h : n < 10
    · rw [dif_pos h]; simp
    · rw [dif_neg h, List.length_append, List.length_singleton]
      have := ih (n / 10) (by omega)
      omega
theorem digit_cut : ∀ q : Fin 10, cutFrom (cutTo ([48, 49, 50, 51, 52, 53, 54, 55, 56, 57] : Str) (some ((q.val : Int) + 1))) (some (q.val : Int)) = [UInt8.ofNat (48 + q.val)] := by decide
theorem digits_c (n : Nat) (hn : n < 9223372036854775808) : PFun Tryz.prog 30 [iv n] [] (sv' (Lib.itoa n)) [] := by
  have e0 : Lib.itoa n = Lib.decDigits n := by unfold Lib.itoa; rw [if_neg (by omega)]; rfl
  rw [e0]
  refine fn_sem pok 32 0 Tryz.func30 (by kernel_rfl) rfl rfl rfl rfl ?_
  refine SWp.go pok (by kernel_rfl) ?_
  refine brP_split (fun h => ?_) (fun h => ?_)
  · have h : n = 0 := by simp at h; omega
    subst h
    exact fin1 (by rw [Lib.decDigits]; rfl)
  have hpos : 0 < n := by simp at h; omega
  refine SWp.loop (fun x : Nat × Str => x.1 ≤ n ∧ (if x.1 = 0 then [] else Lib.decDigits x.1) ++ x.2 = Lib.decDigits n) (fun x => ([(0, iv n), (3, sv' x.2), (4, sv' [48, 49, 50, 51, 52, 53, 54, 55, 56, 57]), (5, iv x.1)], [])) (fun x => x.1) (n, []) ⟨Nat.le_refl _, by rw [if_neg (by show ¬ n = 0; omega)]; simp⟩ (Le.same ⟨rfl, rfl, rfl, rfl, trivial⟩) (fun x hx => ?_)
  obtain ⟨m, s⟩ := x
  obtain ⟨hm, hs⟩ := hx
  dsimp only at hm hs
  refine SWp.go pok (by kernel_rfl) ?_
  refine brP_split (fun h2 => ?_) (fun h2 => ?_)
  · have h2 : 0 < m := by simp at h2; omega
    have ht : (m : Int).tmod 10 = ((m % 10 : Nat) : Int) := by rw [Int.tmod_eq_emod_of_nonneg (by omega)]; omega
    have hq : (m : Int).tdiv 10 = ((m / 10 : Nat) : Int) := by rw [Int.tdiv_eq_ediv_of_nonneg (by omega)]; omega
    have hlt : m % 10 < 10 := Nat.mod_lt _ (by decide)
    have hw : IntKind.i64.wrap ((m : Int).tmod 10 + 1) = ((m % 10 : Nat) : Int) + 1 := by rw [ht]; exact wrap_in (by unfold R64; omega)
    have hsl : s.length ≤ n / 10 + 1 := by
      have := congrArg List.length hs
      rw [List.length_append] at this
      have := dec_len n
      omega
    have hcut : cutFrom (cutTo ([48, 49, 50, 51, 52, 53, 54, 55, 56, 57] : Str) (some (IntKind.i64.wrap ((m : Int).tmod 10 + 1)))) (some ((m : Int).tmod 10)) = [UInt8.ofNat (48 + m % 10)] := by
      rw [hw, ht]; exact digit_cut ⟨m % 10, hlt⟩
    refine ⟨by decide, ?_⟩
    refine ⟨by rw [hw, ht]; show cutOk 10 _ _; unfold cutOk; omega, ?_⟩
    refine ⟨by rw [hcut]; show 1 + s.length ≤ 4611686018427387904; omega, ?_⟩
    refine ⟨by decide, ?_⟩
    refine ⟨(m / 10, UInt8.ofNat (48 + m % 10) :: s), ⟨by show m / 10 ≤ n; omega, ?_⟩, by show m / 10 < m; omega, Le.same ⟨rfl, sv (by rw [hcut]; rfl), rfl, sint (by rw [hq]; exact wrap_in (by unfold R64; omega)), trivial⟩⟩
    show (if m / 10 = 0 then [] else Lib.decDigits (m / 10)) ++ (UInt8.ofNat (48 + m % 10) :: s) = Lib.decDigits n
    rw [← hs, if_neg (show ¬ m = 0 by omega), dec_step h2]
    simp
  · have h2 : m = 0 := by simp at h2; omega
    subst h2
    rw [if_pos rfl, List.nil_append] at hs
    subst hs
    exact fin1 rfl
end Go.Proofs.YtmflfcbebeikcaaGreatDoor.Q

namespace Go.Proofs.YtmflfcbebeikcaaGreatDoor.Q
open Go.RowKit
variable [Amb] [Pow]
theorem PrOk.nat {e : Ex} (h : PrOk e) : ∃ k : Nat, e.n = k ∧ k < 9223372036854775808 := by
  have hm : e ∈ e.pre := by rw [e.pre_eq]; simp
  have h1 := h.part e hm
  have h2 := h.num e hm
  unfold isPartS at h1
  simp only [Bool.and_eq_true] at h1
  have h3 : e.n ≥ 0 := by simpa using h1.2.1
  unfold R64 at h2
  exact ⟨e.n.toNat, by omega, by omega⟩
def RNests (e : Ex) (lv : Int) : Prop := PFun Tryz.prog 57 [e.v, iv lv] [] (iv (e.ns lv)) []
theorem rbnest_c (e : Ex) (he : PrOk e) (hf : e.pre.length < 1073741824) (ih : ∀ y ∈ e.kids, ∀ lv, RNests y lv) (lv : Int) (hlv : ¬ levelS e.op < lv) : RNests e lv := by
  have hop := he.op
  have hsh := he.shape
  have hk : ∀ y ∈ e.kids, ∀ lv, 0 ≤ y.ns lv ∧ y.ns lv < 4294967296 := fun y hy lv => by
    have h1 := ns_bound _ y (Nat.le_refl _) (he.kid hy)
    have h2 := e.pre_kid hy
    unfold Ex.ns atN
    split <;> dsimp only <;> omega
  unfold RNests Ex.ns atN
  rw [if_neg hlv]
  obtain ⟨op, mon, name, n, kids, pl⟩ := e
  dsimp only at *
  rw [Ex.bn]
  refine fn_sem pok 60 0 Tryz.func57 (by kernel_rfl) rfl rfl rfl rfl ?_
  refine SWp.go pok (by kernel_rfl) ?_
  refine PFun.call (refLevel_c op) ?_
  refine brP_false (decide_eq_false hlv) ?_
  rcases hsh with ⟨rfl, ho⟩ | ⟨a, rfl, ho⟩ | ⟨a, b, rfl, ho⟩
  · rw [Ex.bns]
    exact fin1 rfl
  · rw [Ex.bns, Ex.bns]
    refine brP_split (fun h => ?_) (fun h => ?_)
    · have h : op = 5 := by simpa using h
      subst h
      refine PIdx.exz (k := 0) rfl rfl ?_
      refine PFun.call (ih a (by simp) 3) ?_
      have := hk a (by simp) 3
      exact fin1 (dint (wrap_in (show R64 (1 + a.ns 3) by unfold R64; omega)))
    · have h : ¬ op = 5 := by simpa using h
      refine PIdx.exz (k := 0) rfl rfl ?_
      refine PFun.call (ih a (by simp) 6) ?_
      have := hk a (by simp) 6
      refine fin1 (dint ?_)
      rw [wrap_in (show R64 (1 + a.ns 6) by unfold R64; omega)]
      show _ = 1 + a.ns (if op = 5 then 3 else 6)
      rw [if_neg h]
  · rw [Ex.bns, Ex.bns, Ex.bns]
    have h5 : (op == 5) = false := by simp; omega
    repeat refine brP_false h5 ?_
    refine PFun.call (refSides_c op ho hop.2) ?_
    refine PIdx.exz (k := 0) rfl rfl ?_
    refine ⟨_, _, ih a (by simp) (leftS op), ?_⟩
    refine PIdx.exz (k := 1) rfl rfl ?_
    refine ⟨_, _, ih b (by simp) (rightS op), ?_⟩
    refine fin1 (dint ?_)
    show maxI (a.ns (leftS op)) [b.ns (rightS op)] = max (a.ns (leftS op)) (b.ns (rightS op))
    simp only [maxI]
    try split
    all_goals omega
theorem rnest_c (N : Nat) : ∀ (e : Ex), e.pre.length ≤ N → e.pre.length < 1073741824 → PrOk e → ∀ lv, RNests e lv := by
  induction N with
  | zero => intro e h; have := e.pre_pos; omega
  | succ N ih =>
    intro e hN hf he lv
    have hkid : ∀ y ∈ e.kids, ∀ lv, RNests y lv := fun y hy => by
      have := e.pre_kid hy
      exact ih y (by omega) (by omega) (he.kid hy)
    by_cases hlv : levelS e.op < lv
    · have hl := levelS_le e.op
      have hb := rbnest_c e he hf hkid 1 (by omega)
      have hbd := ns_bound _ e (Nat.le_refl _) he
      unfold RNests Ex.ns atN at hb ⊢
      rw [if_neg (by show ¬ levelS e.op < 1; omega)] at hb
      rw [if_pos hlv]
      refine fn_sem pok 60 0 Tryz.func57 (by kernel_rfl) rfl rfl rfl rfl ?_
      refine SWp.go pok (by kernel_rfl) ?_
      refine PFun.call (refLevel_c e.op) ?_
      refine brP_true (decide_eq_true hlv) ?_
      refine PFun.call hb ?_
      exact fin1 (dint (wrap_in (show R64 (1 + e.bn) by unfold R64; omega)))
    · exact rbnest_c e he hf hkid lv hlv
def RLays (e : Ex) (lv : Int) : Prop := (e.pr lv).length ≤ 140737488355328 → PFun Tryz.prog 95 [e.v, iv lv] [] (sv' (e.pr lv)) []
theorem rbare_c (e : Ex) (he : PrOk e) (ih : ∀ y ∈ e.kids, ∀ lv, RLays y lv) (lv : Int) (hlv : ¬ levelS e.op < lv) : RLays e lv := by
  intro hl
  obtain ⟨hk, hn⟩ := he.self
  obtain ⟨o1, o2⟩ := he.op
  obtain ⟨m, hm, hmb⟩ := he.nat
  have hsh := he.shape
  unfold Ex.pr atL at hl ⊢
  rw [if_neg hlv] at hl ⊢
  obtain ⟨op, mon, name, n, kids, pl⟩ := e
  dsimp only at *
  subst hm
  unfold Ex.bare at hl ⊢
  refine fn_sem pok 88 0 Tryz.func95 (by kernel_rfl) rfl rfl rfl rfl ?_
  refine SWp.go pok (by kernel_rfl) ?_
  refine PFun.call (refLevel_c op) ?_
  refine brP_false (decide_eq_false hlv) ?_
  rcases hsh with ⟨rfl, ho⟩ | ⟨a, rfl, ho1, ho2⟩ | ⟨a, b, rfl, ho⟩
  · have hop : op = 1 ∨ op = 2 ∨ op = 3 ∨ op = 4 := by omega
    rcases hop with rfl | rfl | rfl | rfl
    · refine PFun.call (digits_c m hmb) ?_
      exact fin1 rfl
    · exact fin1 rfl
    · exact fin1 rfl
    · have e1 : bareK 4 mon name m (Ex.bares []) = mon ++ ([46] ++ name) := rfl
      rw [e1] at hl
      simp only [List.length_append] at hl
      refine ⟨by show mon.length + 1 ≤ 4611686018427387904; omega, ?_⟩
      refine ⟨by rw [List.length_append]; show mon.length + 1 + name.length ≤ 4611686018427387904; have : ([46] : Str).length = 1 := rfl; omega, ?_⟩
      exact fin1 (by rw [e1, List.append_assoc])
  · have hop : op = 5 ∨ op = 6 ∨ op = 7 := by omega
    rcases hop with rfl | rfl | rfl
    · have e1 : bareK 5 mon name m (Ex.bares [a]) = [33] ++ a.pr 3 := by rw [← kid0 a [] 3]; rfl
      rw [e1] at hl
      simp only [List.length_append] at hl
      refine PIdx.exz (k := 0) rfl rfl ?_
      refine PFun.call (ih a (by simp) 3 (by omega)) ?_
      refine ⟨by show 1 + (a.pr 3).length ≤ 4611686018427387904; omega, ?_⟩
      exact fin1 (by rw [e1])
    · have e1 : bareK 6 mon name m (Ex.bares [a]) = [45] ++ a.pr 6 := by rw [← kid0 a [] 6]; rfl
      rw [e1] at hl
      simp only [List.length_append] at hl
      refine PIdx.exz (k := 0) rfl rfl ?_
      refine PFun.call (ih a (by simp) 6 (by omega)) ?_
      refine ⟨by show 1 + (a.pr 6).length ≤ 4611686018427387904; omega, ?_⟩
      exact fin1 (by rw [e1])
    · have e1 : bareK 7 mon name m (Ex.bares [a]) = Lib.itoa m ++ ([32, 42, 32] ++ a.pr 6) := by rw [← kid0 a [] 6]; rfl
      rw [e1] at hl
      simp only [List.length_append] at hl
      have h3 : ([32, 42, 32] : Str).length = 3 := rfl
      refine ⟨_, _, digits_c m hmb, ?_⟩
      refine ⟨by show (Lib.itoa m).length + 3 ≤ 4611686018427387904; omega, ?_⟩
      refine PIdx.exz (k := 0) rfl rfl ?_
      refine ⟨_, _, ih a (by simp) 6 (by omega), ?_⟩
      refine ⟨by show (Lib.itoa m ++ ([32, 42, 32] : Str)).length + (a.pr 6).length ≤ 4611686018427387904; simp only [List.length_append]; omega, ?_⟩
      exact fin1 (by rw [e1, List.append_assoc])
  · have e1 : bareK op mon name m (Ex.bares [a, b]) = a.pr (leftS op) ++ (([32] ++ (signOf op ++ [32])) ++ b.pr (rightS op)) := by
      rw [← kid0 a [b], ← kid1 a b []]
      have hop : op = 8 ∨ op = 9 ∨ op = 10 ∨ op = 11 ∨ op = 12 ∨ op = 13 ∨ op = 14 ∨ op = 15 ∨ op = 16 ∨ op = 17 := by omega
      rcases hop with rfl | rfl | rfl | rfl | rfl | rfl | rfl | rfl | rfl | rfl <;> rfl
    rw [e1] at hl
    simp only [List.length_append] at hl
    have h1 : ([32] : Str).length = 1 := rfl
    have g : ∀ k : Int, k ≤ 7 → (op == k) = false := fun k hk => by simp; omega
    refine brP_false (g 1 (by decide)) ?_
    refine brP_false (g 2 (by decide)) ?_
    refine brP_false (g 3 (by decide)) ?_
    refine brP_false (g 4 (by decide)) ?_
    refine brP_false (g 5 (by decide)) ?_
    refine brP_false (g 6 (by decide)) ?_
    refine brP_false (g 7 (by decide)) ?_
    refine PFun.call (refSides_c op ho o2) ?_
    refine PIdx.exz (k := 0) rfl rfl ?_
    refine ⟨_, _, ih a (by simp) (leftS op) (by omega), ?_⟩
    refine ⟨by show (a.pr (leftS op)).length + 1 ≤ 4611686018427387904; omega, ?_⟩
    refine ⟨_, _, refSign_c op ho o2, ?_⟩
    refine ⟨by show (a.pr (leftS op) ++ ([32] : Str)).length + (signOf op).length ≤ 4611686018427387904; simp only [List.length_append]; omega, ?_⟩
    refine ⟨by show (a.pr (leftS op) ++ ([32] : Str) ++ signOf op).length + 1 ≤ 4611686018427387904; simp only [List.length_append]; omega, ?_⟩
    refine PIdx.exz (k := 1) rfl rfl ?_
    refine ⟨_, _, ih b (by simp) (rightS op) (by omega), ?_⟩
    refine ⟨by show (a.pr (leftS op) ++ ([32] : Str) ++ signOf op ++ ([32] : Str)).length + (b.pr (rightS op)).length ≤ 4611686018427387904; simp only [List.length_append]; omega, ?_⟩
    exact fin1 (by rw [e1]; simp only [List.append_assoc])
theorem rexpr_c (N : Nat) : ∀ (e : Ex), e.pre.length ≤ N → PrOk e → ∀ lv, RLays e lv := by
  induction N with
  | zero => intro e h; have := e.pre_pos; omega
  | succ N ih =>
    intro e hN he lv
    have hkid : ∀ y ∈ e.kids, ∀ lv, RLays y lv := fun y hy => ih y (by have := e.pre_kid hy; omega) (he.kid hy)
    by_cases hlv : levelS e.op < lv
    · intro hl
      have hb := rbare_c e he hkid 1 (by have := levelS_le e.op; omega)
      have e1 : e.pr 1 = e.bare := by unfold Ex.pr atL; rw [if_neg (by have := levelS_le e.op; show ¬ levelS e.op < 1; omega)]
      have e2 : e.pr lv = [40] ++ (e.bare ++ [41]) := by unfold Ex.pr atL; rw [if_pos hlv]
      unfold RLays at hb
      rw [e1] at hb
      rw [e2] at hl ⊢
      simp only [List.length_append] at hl
      have h1 : ([40] : Str).length = 1 := rfl
      have h2 : ([41] : Str).length = 1 := rfl
      refine fn_sem pok 88 0 Tryz.func95 (by kernel_rfl) rfl rfl rfl rfl ?_
      refine SWp.go pok (by kernel_rfl) ?_
      refine PFun.call (refLevel_c e.op) ?_
      refine brP_true (decide_eq_true hlv) ?_
      refine PFun.call (hb (by omega)) ?_
      refine ⟨by show 1 + e.bare.length ≤ 4611686018427387904; omega, ?_⟩
      refine ⟨by show (([40] : Str) ++ e.bare).length + 1 ≤ 4611686018427387904; simp only [List.length_append]; omega, ?_⟩
      exact fin1 (by rw [← List.append_assoc])
    · exact rbare_c e he hkid lv hlv
end Go.Proofs.YtmflfcbebeikcaaGreatDoor.Q
