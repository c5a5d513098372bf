/- Texts of the reference: numbers, picks, lassos, verdicts; the walks. No condition. -/
import Derived.Test.YtblnfodnkacbbaaGreatDoorMF
import Derived.Test.YtblnfodnkacbbaaGreatDoorMH
set_option linter.unusedVariables false
set_option linter.unusedSectionVars false
set_option linter.unnecessarySimpa false
set_option linter.unusedSimpArgs false
set_option maxRecDepth 100000
set_option maxHeartbeats 4000000
namespace Go.Proofs.YtblnfodnkacbbaaGreatDoor.Q
open Go.RowKit
variable [Amb]
theorem dec_step {m : Nat} (h : 0 < m) : Lib.decDigits m = (if m / 10 = 0 then [] else Lib.decDigits (m / 10)) ++ [UInt8.ofNat (48 + m % 10)] := by
  rw [Lib.decDigits]
  by_cases h1 : m < 10
  · rw [dif_pos h1, if_pos (by omega)]
    have : m % 10 = m := by omega
    rw [this]; rfl
  · rw [dif_neg h1, if_neg (by omega)]
theorem dec_len (n : Nat) : (Lib.decDigits n).length ≤ n / 10 + 1 := by
  induction n using Nat.strongRecOn with
  | _ n ih =>
    rw [Lib.decDigits]
    by_cases h : n < 10
    · rw [dif_pos h]; simp
    · rw [dif_neg h, List.length_append, List.length_singleton]
      have := ih (n / 10) (by omega)
      omega
theorem digit_cut : ∀ q : Fin 10, cutFrom (cutTo ([48, 49, 50, 51, 52, 53, 54, 55, 56, 57] : Str) (some ((q.val : Int) + 1))) (some (q.val : Int)) = [UInt8.ofNat (48 + q.val)] := by decide
theorem digits_c (n : Nat) (hn : n < 9223372036854775808) : PFun Tryz.prog 45 [iv n] [] (sv' (Lib.itoa n)) [] := by
  have e0 : Lib.itoa n = Lib.decDigits n := by unfold Lib.itoa; rw [if_neg (by omega)]; rfl
  rw [e0]
  refine fn_sem pok 32 0 Tryz.func45 (by kernel_rfl) rfl rfl rfl rfl ?_
  refine SWp.go pok (by kernel_rfl) ?_
  refine brP_split (fun h => ?_) (fun h => ?_)
  · have h : n = 0 := by simp at h; omega
    subst h
    exact fin1 (by rw [Lib.decDigits]; rfl)
  have hpos : 0 < n := by simp at h; omega
  refine SWp.loop (fun x : Nat × Str => x.1 ≤ n ∧ (if x.1 = 0 then [] else Lib.decDigits x.1) ++ x.2 = Lib.decDigits n) (fun x => ([(0, iv n), (3, sv' x.2), (4, sv' [48, 49, 50, 51, 52, 53, 54, 55, 56, 57]), (5, iv x.1)], [])) (fun x => x.1) (n, []) ⟨Nat.le_refl _, by rw [if_neg (by show ¬ n = 0; omega)]; simp⟩ (Le.same ⟨rfl, rfl, rfl, rfl, trivial⟩) (fun x hx => ?_)
  obtain ⟨m, s⟩ := x
  obtain ⟨hm, hs⟩ := hx
  dsimp only at hm hs
  refine SWp.go pok (by kernel_rfl) ?_
  refine brP_split (fun h2 => ?_) (fun h2 => ?_)
  · have h2 : 0 < m := by simp at h2; omega
    have ht : (m : Int).tmod 10 = ((m % 10 : Nat) : Int) := by rw [Int.tmod_eq_emod_of_nonneg (by omega)]; omega
    have hq : (m : Int).tdiv 10 = ((m / 10 : Nat) : Int) := by rw [Int.tdiv_eq_ediv_of_nonneg (by omega)]; omega
    have hlt : m % 10 < 10 := Nat.mod_lt _ (by decide)
    have hw : IntKind.i64.wrap ((m : Int).tmod 10 + 1) = ((m % 10 : Nat) : Int) + 1 := by rw [ht]; exact wrap_in (by unfold R64; omega)
    have hsl : s.length ≤ n / 10 + 1 := by
      have := congrArg List.length hs
      rw [List.length_append] at this
      have := dec_len n
      omega
    have hcut : cutFrom (cutTo ([48, 49, 50, 51, 52, 53, 54, 55, 56, 57] : Str) (some (IntKind.i64.wrap ((m : Int).tmod 10 + 1)))) (some ((m : Int).tmod 10)) = [UInt8.ofNat (48 + m % 10)] := by
      rw [hw, ht]; exact digit_cut ⟨m % 10, hlt⟩
    refine ⟨by decide, ?_⟩
    refine ⟨by rw [hw, ht]; show cutOk 10 _ _; unfold cutOk; omega, ?_⟩
    refine ⟨by rw [hcut]; show 1 + s.length ≤ 4611686018427387904; omega, ?_⟩
    refine ⟨by decide, ?_⟩
    refine ⟨(m / 10, UInt8.ofNat (48 + m % 10) :: s), ⟨by show m / 10 ≤ n; omega, ?_⟩, by show m / 10 < m; omega, Le.same ⟨rfl, sv (by rw [hcut]; rfl), rfl, sint (by rw [hq]; exact wrap_in (by unfold R64; omega)), trivial⟩⟩
    show (if m / 10 = 0 then [] else Lib.decDigits (m / 10)) ++ (UInt8.ofNat (48 + m % 10) :: s) = Lib.decDigits n
    rw [← hs, if_neg (show ¬ m = 0 by omega), dec_step h2]
    simp
  · have h2 : m = 0 := by simp at h2; omega
    subst h2
    rw [if_pos rfl, List.nil_append] at hs
    subst hs
    exact fin1 rfl
theorem neg_digit : ∀ q : Fin 10, cutFrom (cutTo ([48, 49, 50, 51, 52, 53, 54, 55, 56, 57] : Str) (some ((q.val : Int) + 1))) (some (q.val : Int)) = [UInt8.ofNat (48 + q.val)] := by decide
theorem digitsN_c (n : Nat) (h0 : 0 < n) (hn : n ≤ 9223372036854775808) : PFun Tryz.prog 45 [iv (-(n : Int))] [] (sv' (Lib.itoa (-(n : Int)))) [] := by
  have e0 : Lib.itoa (-(n : Int)) = 45 :: Lib.decDigits n := by unfold Lib.itoa; rw [if_pos (by omega)]; simp
  rw [e0]
  refine fn_sem pok 32 0 Tryz.func45 (by kernel_rfl) rfl rfl rfl rfl ?_
  refine SWp.go pok (by kernel_rfl) ?_
  refine brP_false (by simp; omega) ?_
  refine SWp.loop (fun x : Nat × Str => x.1 ≤ n ∧ (if x.1 = 0 then [] else Lib.decDigits x.1) ++ x.2 = Lib.decDigits n) (fun x => ([(0, iv (-(n : Int))), (3, sv' x.2), (4, sv' [48, 49, 50, 51, 52, 53, 54, 55, 56, 57]), (5, iv (-(x.1 : Int)))], [])) (fun x => x.1) (n, []) ⟨Nat.le_refl _, by rw [if_neg (by show ¬ n = 0; omega)]; simp⟩ (Le.same ⟨rfl, rfl, rfl, rfl, trivial⟩) (fun x hx => ?_)
  obtain ⟨m, s⟩ := x
  obtain ⟨hm, hs⟩ := hx
  dsimp only at hm hs
  refine SWp.go pok (by kernel_rfl) ?_
  refine brP_split (fun h2 => ?_) (fun h2 => ?_)
  · have h2 : 0 < m := by simp at h2; omega
    have ht : (-(m : Int)).tmod 10 = -((m % 10 : Nat) : Int) := by rw [Int.neg_tmod, Int.tmod_eq_emod_of_nonneg (by omega)]; omega
    have hq : (-(m : Int)).tdiv 10 = -((m / 10 : Nat) : Int) := by rw [Int.neg_tdiv, Int.tdiv_eq_ediv_of_nonneg (by omega)]; omega
    have hlt : m % 10 < 10 := Nat.mod_lt _ (by decide)
    have hsl : s.length ≤ n / 10 + 1 := by
      have := congrArg List.length hs
      rw [List.length_append] at this
      have := dec_len n
      omega
    have hgo : (if m / 10 = 0 then [] else Lib.decDigits (m / 10)) ++ (UInt8.ofNat (48 + m % 10) :: s) = Lib.decDigits n := by
      rw [← hs, if_neg (show ¬ m = 0 by omega), dec_step h2]
      simp
    refine ⟨by decide, ?_⟩
    by_cases hz : m % 10 = 0
    · have hk0 : (-(m : Int)).tmod 10 = 0 := by rw [ht, hz]; rfl
      have hcut : cutFrom (cutTo ([48, 49, 50, 51, 52, 53, 54, 55, 56, 57] : Str) (some (IntKind.i64.wrap ((-(m : Int)).tmod 10 + 1)))) (some ((-(m : Int)).tmod 10)) = [UInt8.ofNat (48 + m % 10)] := by
        rw [hk0, hz]; rfl
      refine brP_false (by rw [hk0]; rfl) ?_
      refine ⟨by rw [hk0]; show cutOk 10 (some 0) (some 1); unfold cutOk; decide, ?_⟩
      refine ⟨by rw [hcut]; show 1 + s.length ≤ 4611686018427387904; omega, ?_⟩
      refine ⟨by decide, ?_⟩
      exact ⟨(m / 10, UInt8.ofNat (48 + m % 10) :: s), ⟨by show m / 10 ≤ n; omega, hgo⟩, by show m / 10 < m; omega, Le.same ⟨rfl, sv (by rw [hcut]; rfl), rfl, sint (by rw [hq]; exact wrap_in (by unfold R64; omega)), trivial⟩⟩
    · have hneg : (-(m : Int)).tmod 10 < 0 := by rw [ht]; omega
      have hw0 : IntKind.i64.wrap (0 - (-(m : Int)).tmod 10) = ((m % 10 : Nat) : Int) := by rw [ht, wrap_in (by unfold R64; omega)]; omega
      have hw1 : IntKind.i64.wrap (IntKind.i64.wrap (0 - (-(m : Int)).tmod 10) + 1) = ((m % 10 : Nat) : Int) + 1 := by rw [hw0]; exact wrap_in (by unfold R64; omega)
      have hcut : cutFrom (cutTo ([48, 49, 50, 51, 52, 53, 54, 55, 56, 57] : Str) (some (IntKind.i64.wrap (IntKind.i64.wrap (0 - (-(m : Int)).tmod 10) + 1)))) (some (IntKind.i64.wrap (0 - (-(m : Int)).tmod 10))) = [UInt8.ofNat (48 + m % 10)] := by
        rw [hw1, hw0]; exact neg_digit ⟨m % 10, hlt⟩
      refine brP_true (by simpa using hneg) ?_
      refine ⟨by rw [hw1, hw0]; show cutOk 10 _ _; unfold cutOk; omega, ?_⟩
      refine ⟨by rw [hcut]; show 1 + s.length ≤ 4611686018427387904; omega, ?_⟩
      refine ⟨by decide, ?_⟩
      exact ⟨(m / 10, UInt8.ofNat (48 + m % 10) :: s), ⟨by show m / 10 ≤ n; omega, hgo⟩, by show m / 10 < m; omega, Le.same ⟨rfl, sv (by rw [hcut]; rfl), rfl, sint (by rw [hq]; exact wrap_in (by unfold R64; omega)), trivial⟩⟩
  · have h2 : m = 0 := by simp at h2; omega
    subst h2
    rw [if_pos rfl, List.nil_append] at hs
    subst hs
    have hdl := dec_len n
    refine brP_true (by simp; omega) ?_
    refine ⟨by show 1 + (Lib.decDigits n).length ≤ 4611686018427387904; omega, ?_⟩
    exact fin1 rfl
theorem digits_all {n : Int} (h : R64 n) : PFun Tryz.prog 45 [iv n] [] (sv' (Lib.itoa n)) [] := by
  unfold R64 at h
  by_cases h0 : n < 0
  · obtain ⟨k, rfl⟩ : ∃ k : Nat, n = -(k : Int) := ⟨n.natAbs, by omega⟩
    exact digitsN_c k (by omega) (by omega)
  · obtain ⟨k, rfl⟩ : ∃ k : Nat, n = k := ⟨n.toNat, by omega⟩
    exact digits_c k (by omega)
theorem digits30_c {n : Int} (h : R64 n) : PFun Tryz.prog 24 [iv n] [] (sv' (Lib.itoa n)) [] := by
  refine fn_sem pok 5 0 Tryz.func24 (by kernel_rfl) rfl rfl rfl rfl ?_
  refine SWp.go pok (by kernel_rfl) ?_
  refine PFun.call (digits_all h) ?_
  exact fin1 rfl
end Go.Proofs.YtblnfodnkacbbaaGreatDoor.Q

set_option maxHeartbeats 400000
namespace Go.Proofs.YtblnfodnkacbbaaGreatDoor.Q
open Go.RowKit
/-! ### digits added up -/
def isDig (c : UInt8) : Bool := !(decide ((c.toNat : Int) < 48) || decide ((c.toNat : Int) > 57))
theorem isDig_iff (c : UInt8) : isDig c = true ↔ 48 ≤ c.toNat ∧ c.toNat ≤ 57 := by
  unfold isDig
  simp only [Bool.not_eq_true', Bool.or_eq_false_iff, decide_eq_false_iff_not]
  omega
@[irreducible] def accD (u : Nat) (l : Str) : Nat := l.foldl (fun a c => 10 * a + (c.toNat - 48)) u
theorem accD_app (c : UInt8) (l : Str) (u : Nat) : accD u (l ++ [c]) = 10 * accD u l + (c.toNat - 48) := by unfold accD; rw [List.foldl_append, List.foldl_cons, List.foldl_nil]
theorem accD_nil (u : Nat) : accD u [] = u := by unfold accD; rw [List.foldl_nil]
theorem accD_one (c : UInt8) (u : Nat) : accD u [c] = 10 * u + (c.toNat - 48) := by unfold accD; rw [List.foldl_cons, List.foldl_nil]
theorem accD_cons (c : UInt8) (l : Str) (u : Nat) : accD u (c :: l) = accD (10 * u + (c.toNat - 48)) l := by unfold accD; rw [List.foldl_cons]
theorem accD_dec (n : Nat) : accD 0 (Lib.decDigits n) = n := by
  induction n using Nat.strongRecOn with
  | _ n ih =>
    rw [dec_unfold]
    split
    · rename_i h
      rw [accD_one, u8_dig h]; omega
    · rw [accD_app, ih (n / 10) (by omega), u8_dig (Nat.mod_lt _ (by decide))]; omega
theorem accD_lt : ∀ (l : Str) (u : Nat), (l.all isDig) = true → accD u l < (u + 1) * 10 ^ l.length
  | [], u, _ => by rw [accD_nil, List.length_nil, Nat.pow_zero]; omega
  | c :: r, u, h => by
    rw [List.all_cons, Bool.and_eq_true, isDig_iff] at h
    rw [accD_cons, List.length_cons, Nat.pow_succ]
    refine Nat.lt_of_lt_of_le (accD_lt r _ h.2) ?_
    rw [Nat.mul_comm (10 ^ r.length) 10, ← Nat.mul_assoc]
    exact Nat.mul_le_mul_right _ (by omega)
theorem accD_take (l : Str) (i : Nat) (h : i < l.length) : accD 0 (l.take (i + 1)) = 10 * accD 0 (l.take i) + (l[i].toNat - 48) := by
  rw [take_snoc l i h, accD_app]
theorem dig_take (l : Str) (i : Nat) (h : i < l.length) (h1 : (l.take i).all isDig = true) (h2 : isDig l[i] = true) : (l.take (i + 1)).all isDig = true := by
  rw [take_snoc l i h, List.all_append, h1]; simp [h2]
theorem all_not (l : Str) (i : Nat) (h : i < l.length) (h2 : ¬ isDig l[i] = true) : l.all isDig = false := by
  rw [Bool.eq_false_iff]
  intro hh
  exact h2 (List.all_eq_true.1 hh _ (List.getElem_mem h))
def num16 (s : Str) : Int × Bool :=
  if s = [] ∨ 6 < s.length then (0, false)
  else if s.all isDig = true then ((accD 0 s : Int), Lib.itoa (accD 0 s) == s) else (0, false)
def negN (s : Str) : Bool := decide (s.head? = some 45)
def magN (s : Str) : Str := if negN s = true then s.drop 1 else s
def valN (s : Str) : Int := if negN s = true then IntKind.i64.wrap (0 - IntKind.i64.wrap (accD 0 (magN s))) else IntKind.i64.wrap (accD 0 (magN s))
def numW (s : Str) : Int × Bool :=
  if magN s = [] ∨ 19 < (magN s).length then (0, false)
  else if (magN s).all isDig = true then (valN s, Lib.itoa (valN s) == s) else (0, false)
def num30 (s : Str) : Int := if (numW s).2 = false ∨ (numW s).1 < 0 ∨ most < (numW s).1 then -1 else (numW s).1
theorem sub_u8 {c : UInt8} (h : isDig c = true) : IntKind.u8.wrap ((c.toNat : Int) - 48) = ((c.toNat - 48 : Nat) : Int) ∧ c.toNat - 48 ≤ 9 := by
  rw [isDig_iff] at h
  refine ⟨?_, by omega⟩
  have e : (c.toNat : Int) - 48 = ((c.toNat - 48 : Nat) : Int) := by omega
  rw [e]
  generalize c.toNat - 48 = k at *
  unfold IntKind.wrap
  simp [IntKind.bits, IntKind.signed]
  omega
section
variable [Amb]
theorem step_i64 {c : UInt8} (h : isDig c = true) {n : Nat} (hn : n < 1000000) : IntKind.i64.wrap (IntKind.i64.wrap (10 * (n : Int)) + IntKind.i64.wrap (IntKind.u8.wrap ((c.toNat : Int) - 48))) = ((10 * n + (c.toNat - 48) : Nat) : Int) := by
  obtain ⟨h1, h2⟩ := sub_u8 h
  rw [h1, wrap_in (x := 10 * (n : Int)) (by unfold R64; omega), wrap_in (x := ((c.toNat - 48 : Nat) : Int)) (by unfold R64; omega), wrap_in (by unfold R64; omega)]
  omega
theorem wrap_u64 {x : Int} (h0 : 0 ≤ x) (h1 : x < 18446744073709551616) : IntKind.u64.wrap x = x := by
  unfold IntKind.wrap
  simp [IntKind.bits, IntKind.signed]
  omega
theorem wrap_R64 (x : Int) : R64 (IntKind.i64.wrap x) := by
  unfold IntKind.wrap R64
  simp [IntKind.bits, IntKind.signed]
  split <;> omega
theorem step_u64 {c : UInt8} (h : isDig c = true) {n : Nat} (hn : n < 1000000000000000000) : IntKind.u64.wrap (IntKind.u64.wrap (10 * (n : Int)) + IntKind.u64.wrap (IntKind.u8.wrap ((c.toNat : Int) - 48))) = ((10 * n + (c.toNat - 48) : Nat) : Int) := by
  obtain ⟨h1, h2⟩ := sub_u8 h
  rw [h1, wrap_u64 (x := 10 * (n : Int)) (by omega) (by omega), wrap_u64 (x := ((c.toNat - 48 : Nat) : Int)) (by omega) (by omega), wrap_u64 (by omega) (by omega)]
  omega
theorem num16_c (s : Str) (hs : s.length ≤ 1048576) : PFun Tryz.prog 190 [sv' s] [] (.tup [iv (num16 s).1, .d (.bool (num16 s).2)]) [] := by
  refine fn_sem pok 42 0 Tryz.func190 (by kernel_rfl) rfl rfl rfl rfl ?_
  refine SWp.go pok (by kernel_rfl) ?_
  refine brP_split (fun h1 => ?_) (fun h1 => ?_)
  · have h1 : s = [] := by simpa using h1
    refine fin1 ?_
    subst h1; rfl
  have h1 : s ≠ [] := by simpa using h1
  refine brP_split (fun h2 => ?_) (fun h2 => ?_)
  · have h2 : 6 < s.length := by simp at h2; omega
    refine fin1 ?_
    unfold num16; rw [if_pos (.inr h2)]
  have h2 : s.length ≤ 6 := by simp at h2; omega
  have e : num16 s = if s.all isDig = true then ((accD 0 s : Int), Lib.itoa (accD 0 s) == s) else (0, false) := by
    unfold num16; rw [if_neg]; rintro (h | h)
    · exact h1 h
    · omega
  refine SWp.loop (fun i : Nat => i ≤ s.length ∧ (s.take i).all isDig = true)
    (fun i => ([(0, sv' s), (4, iv (accD 0 (s.take i))), (5, iv i)], []))
    (fun i => s.length - i) 0 ⟨Nat.zero_le _, rfl⟩ (Le.same ⟨rfl, sint (by rw [List.take_zero, accD_nil]; rfl), rfl, trivial⟩) (fun i hi => ?_)
  obtain ⟨hi, hd⟩ := hi
  dsimp only
  have hb := accD_lt (s.take i) 0 hd
  have hb6 : accD 0 (s.take i) < 1000000 := by
    have hp : 10 ^ (s.take i).length ≤ 10 ^ 6 := Nat.pow_le_pow_right (by decide) (by rw [List.length_take]; omega)
    omega
  refine SWp.go pok (by kernel_rfl) ?_
  refine brP_split (fun h => ?_) (fun h => ?_)
  · have hlt : i < s.length := by simpa using h
    have bad : ¬ isDig s[i] = true → num16 s = (0, false) := fun hn => by rw [e, all_not s i hlt hn]; rfl
    refine PIdx.at' (i := i) rfl (List.getElem?_eq_getElem hlt) ?_
    refine brP_split (fun h3 => ?_) (fun h3 => ?_)
    · refine fin1 ?_
      rw [bad (by rw [isDig_iff]; simp at h3; omega)]
    refine PIdx.at' (i := i) rfl (List.getElem?_eq_getElem hlt) ?_
    refine brP_split (fun h4 => ?_) (fun h4 => ?_)
    · refine fin1 ?_
      rw [bad (by rw [isDig_iff]; simp at h4; omega)]
    have hdig : isDig s[i] = true := by rw [isDig_iff]; simp at h3 h4; omega
    refine PIdx.at' (i := i) rfl (List.getElem?_eq_getElem hlt) ?_
    refine ⟨i + 1, ⟨hlt, dig_take s i hlt hd hdig⟩, by omega, Le.same ⟨rfl, sint ?_, sint (wrap_nat i (by omega)), trivial⟩⟩
    rw [accD_take s i hlt]
    exact step_i64 hdig (by omega)
  · have hk : i = s.length := by simp at h; omega
    subst hk
    rw [List.take_length] at hd hb6 ⊢
    refine PFun.call (digits_all (n := (accD 0 s : Int)) (by unfold R64; omega)) ?_
    rw [e, if_pos hd]
    refine brP_split (fun h3 => ?_) (fun h3 => ?_)
    · exact fin1 (by rw [show (Lib.itoa (accD 0 s) == s) = true from h3])
    · exact fin1 (by rw [show (Lib.itoa (accD 0 s) == s) = false from h3])
theorem numW_c (s : Str) (hs : s.length ≤ 1048576) : PFun Tryz.prog 51 [sv' s] [] (.tup [iv (numW s).1, .d (.bool (numW s).2)]) [] := by
  refine fn_sem pok 62 0 Tryz.func51 (by kernel_rfl) rfl rfl rfl rfl ?_
  refine SWp.go pok (by kernel_rfl) ?_
  refine brP_split (fun h0 => ?_) (fun h0 => ?_)
  · have h0 : 0 < s.length := by simpa using h0
    obtain ⟨c, r, hcr⟩ : ∃ c r, s = c :: r := by cases s with
      | nil => exact absurd h0 (by simp)
      | cons c r => exact ⟨c, r, rfl⟩
    refine PIdx.at' (i := 0) (x := c) rfl (by rw [hcr]; rfl) ?_
    refine brP_split (fun h4 => ?_) (fun h4 => ?_)
    · have h4 : c = 45 := by
        have : c.toNat = 45 := by simp at h4; omega
        exact UInt8.toNat_inj.1 this
      refine ⟨by show cutOk s.length (some 1) none; unfold cutOk; omega, ?_⟩
      have hneg : negN s = true := by unfold negN; rw [hcr, h4]; rfl
      have hmag : magN s = (s.drop 1) := by unfold magN; rw [hneg]; rfl
      have hlen : ((s.drop 1) : Str).length ≤ 1048576 := by simp at hs ⊢; omega
      have e : numW s = if ((s.drop 1) : Str) = [] ∨ 19 < ((s.drop 1) : Str).length then (0, false) else if ((s.drop 1) : Str).all isDig = true then (valN s, Lib.itoa (valN s) == s) else (0, false) := by
        unfold numW; rw [hmag]
      refine brP_split (fun h1 => ?_) (fun h1 => ?_)
      · rw [show cutFrom (cutTo s none) (some 1) = s.drop 1 from rfl] at h1
        have h1 : ((s.drop 1) : Str) = [] := by simpa using h1
        refine fin1 ?_
        rw [e, if_pos (.inl h1)]
      rw [show cutFrom (cutTo s none) (some 1) = s.drop 1 from rfl] at h1
      have h1 : ((s.drop 1) : Str) ≠ [] := by simpa using h1
      refine brP_split (fun h2 => ?_) (fun h2 => ?_)
      · rw [show cutFrom (cutTo s none) (some 1) = s.drop 1 from rfl] at h2
        have h2 : 19 < ((s.drop 1) : Str).length := by simp at h2 ⊢; omega
        refine fin1 ?_
        rw [e, if_pos (.inr h2)]
      rw [show cutFrom (cutTo s none) (some 1) = s.drop 1 from rfl] at h2
      have h2 : ((s.drop 1) : Str).length ≤ 19 := by simp at h2 ⊢; omega
      rw [if_neg (by rintro (h | h); exact h1 h; omega)] at e
      refine SWp.loop (fun i : Nat => i ≤ ((s.drop 1) : Str).length ∧ (((s.drop 1) : Str).take i).all isDig = true)
        (fun i => ([(0, sv' s), (4, .d (.bool true)), (5, sv' (s.drop 1)), (6, .d (.int .u64 (accD 0 (((s.drop 1) : Str).take i)))), (7, iv i)], []))
        (fun i => ((s.drop 1) : Str).length - i) 0 ⟨Nat.zero_le _, rfl⟩ (Le.same ⟨rfl, rfl, rfl, sint (by rw [List.take_zero, accD_nil]; rfl), rfl, trivial⟩) (fun i hi => ?_)
      obtain ⟨hi, hd⟩ := hi
      dsimp only
      have hb := accD_lt (((s.drop 1) : Str).take i) 0 hd
      refine SWp.go pok (by kernel_rfl) ?_
      refine brP_split (fun h => ?_) (fun h => ?_)
      · have hlt : i < ((s.drop 1) : Str).length := by simp at h ⊢; omega
        have hp : 10 ^ (((s.drop 1) : Str).take i).length ≤ 10 ^ 18 := Nat.pow_le_pow_right (by decide) (by rw [List.length_take]; omega)
        have bad : ¬ isDig ((s.drop 1) : Str)[i] = true → numW s = (0, false) := fun hn => by rw [e, all_not ((s.drop 1) : Str) i hlt hn]; rfl
        refine PIdx.at' (i := i) rfl (List.getElem?_eq_getElem hlt) ?_
        refine brP_split (fun h3 => ?_) (fun h3 => ?_)
        · refine fin1 ?_
          rw [bad (by rw [isDig_iff]; have := of_decide_eq_true h3; omega)]
        refine PIdx.at' (i := i) rfl (List.getElem?_eq_getElem hlt) ?_
        refine brP_split (fun h4 => ?_) (fun h4 => ?_)
        · refine fin1 ?_
          rw [bad (by rw [isDig_iff]; have := of_decide_eq_true h4; omega)]
        have hdig : isDig ((s.drop 1) : Str)[i] = true := by rw [isDig_iff]; have := of_decide_eq_false h3; have := of_decide_eq_false h4; omega
        refine PIdx.at' (i := i) rfl (List.getElem?_eq_getElem hlt) ?_
        refine ⟨i + 1, ⟨hlt, dig_take ((s.drop 1) : Str) i hlt hd hdig⟩, by omega, Le.same ⟨rfl, rfl, rfl, sint ?_, sint (wrap_nat i (by omega)), trivial⟩⟩
        rw [accD_take ((s.drop 1) : Str) i hlt]
        exact step_u64 hdig (by omega)
      · have hk : i = ((s.drop 1) : Str).length := by simp at h hi ⊢; omega
        subst hk
        rw [List.take_length] at hd hb ⊢
        rw [if_pos hd] at e
        have hv : valN s = IntKind.i64.wrap (0 - IntKind.i64.wrap (accD 0 (s.drop 1))) := by unfold valN; rw [hmag, hneg]; rfl
        have hr : R64 (valN s) := by rw [hv]; exact wrap_R64 _
        rw [hv] at hr e
        refine PFun.call (digits_all hr) ?_
        rw [e]
        refine brP_split (fun h3 => ?_) (fun h3 => ?_)
        · exact fin1 (congrArg (fun b : Bool => V.tup [iv _, .d (.bool b)]) h3.symm)
        · exact fin1 (congrArg (fun b : Bool => V.tup [iv _, .d (.bool b)]) h3.symm)
    · have h4 : c ≠ 45 := by
        rintro rfl
        exact absurd h4 (by decide)
      have hneg : negN s = false := by unfold negN; rw [hcr]; simp [h4]
      have hmag : magN s = s := by unfold magN; rw [hneg]; rfl
      have hlen : (s : Str).length ≤ 1048576 := by exact hs
      have e : numW s = if (s : Str) = [] ∨ 19 < (s : Str).length then (0, false) else if (s : Str).all isDig = true then (valN s, Lib.itoa (valN s) == s) else (0, false) := by
        unfold numW; rw [hmag]
      refine brP_split (fun h1 => ?_) (fun h1 => ?_)
      · have h1 : (s : Str) = [] := by simpa using h1
        refine fin1 ?_
        rw [e, if_pos (.inl h1)]
      have h1 : (s : Str) ≠ [] := by simpa using h1
      refine brP_split (fun h2 => ?_) (fun h2 => ?_)
      · have h2 : 19 < (s : Str).length := by simp at h2 ⊢; omega
        refine fin1 ?_
        rw [e, if_pos (.inr h2)]
      have h2 : (s : Str).length ≤ 19 := by simp at h2 ⊢; omega
      rw [if_neg (by rintro (h | h); exact h1 h; omega)] at e
      refine SWp.loop (fun i : Nat => i ≤ (s : Str).length ∧ ((s : Str).take i).all isDig = true)
        (fun i => ([(0, sv' s), (4, .d (.bool false)), (5, sv' s), (6, .d (.int .u64 (accD 0 ((s : Str).take i)))), (7, iv i)], []))
        (fun i => (s : Str).length - i) 0 ⟨Nat.zero_le _, rfl⟩ (Le.same ⟨rfl, rfl, rfl, sint (by rw [List.take_zero, accD_nil]; rfl), rfl, trivial⟩) (fun i hi => ?_)
      obtain ⟨hi, hd⟩ := hi
      dsimp only
      have hb := accD_lt ((s : Str).take i) 0 hd
      refine SWp.go pok (by kernel_rfl) ?_
      refine brP_split (fun h => ?_) (fun h => ?_)
      · have hlt : i < (s : Str).length := by simp at h ⊢; omega
        have hp : 10 ^ ((s : Str).take i).length ≤ 10 ^ 18 := Nat.pow_le_pow_right (by decide) (by rw [List.length_take]; omega)
        have bad : ¬ isDig (s : Str)[i] = true → numW s = (0, false) := fun hn => by rw [e, all_not (s : Str) i hlt hn]; rfl
        refine PIdx.at' (i := i) rfl (List.getElem?_eq_getElem hlt) ?_
        refine brP_split (fun h3 => ?_) (fun h3 => ?_)
        · refine fin1 ?_
          rw [bad (by rw [isDig_iff]; have := of_decide_eq_true h3; omega)]
        refine PIdx.at' (i := i) rfl (List.getElem?_eq_getElem hlt) ?_
        refine brP_split (fun h4 => ?_) (fun h4 => ?_)
        · refine fin1 ?_
          rw [bad (by rw [isDig_iff]; have := of_decide_eq_true h4; omega)]
        have hdig : isDig (s : Str)[i] = true := by rw [isDig_iff]; have := of_decide_eq_false h3; have := of_decide_eq_false h4; omega
        refine PIdx.at' (i := i) rfl (List.getElem?_eq_getElem hlt) ?_
        refine ⟨i + 1, ⟨hlt, dig_take (s : Str) i hlt hd hdig⟩, by omega, Le.same ⟨rfl, rfl, rfl, sint ?_, sint (wrap_nat i (by omega)), trivial⟩⟩
        rw [accD_take (s : Str) i hlt]
        exact step_u64 hdig (by omega)
      · have hk : i = (s : Str).length := by simp at h hi ⊢; omega
        subst hk
        rw [List.take_length] at hd hb ⊢
        rw [if_pos hd] at e
        have hv : valN s = IntKind.i64.wrap (accD 0 s) := by unfold valN; rw [hmag, hneg]; rfl
        have hr : R64 (valN s) := by rw [hv]; exact wrap_R64 _
        rw [hv] at hr e
        refine PFun.call (digits_all hr) ?_
        rw [e]
        refine brP_split (fun h3 => ?_) (fun h3 => ?_)
        · exact fin1 (congrArg (fun b : Bool => V.tup [iv _, .d (.bool b)]) h3.symm)
        · exact fin1 (congrArg (fun b : Bool => V.tup [iv _, .d (.bool b)]) h3.symm)
  · have h0 : s = [] := by
      cases s with
      | nil => rfl
      | cons c r => simp at h0
    subst h0
    exact fin1 rfl
end
end Go.Proofs.YtblnfodnkacbbaaGreatDoor.Q

set_option maxHeartbeats 1000000
namespace Go.Proofs.YtblnfodnkacbbaaGreatDoor.Q
open Go.RowKit
/-! ### numbers -/
theorem itoa_isDig {n : Int} (h : 0 ≤ n) : (Lib.itoa n).all isDig = true := by
  rw [List.all_eq_true]
  intro b hb
  rw [isDig_iff]; exact itoa_digs h b hb
theorem accD_itoa {n : Int} (h : 0 ≤ n) : (accD 0 (Lib.itoa n) : Int) = n := by
  rw [itoa_dec h, accD_dec]; omega
theorem num16_itoa {n : Int} (h0 : 0 ≤ n) (h1 : n ≤ 999999) : num16 (Lib.itoa n) = (n, true) := by
  have hl : (Lib.itoa n).length ≤ 6 := by rw [itoa_dec h0]; exact dec_short 5 n.toNat (by omega)
  unfold num16
  rw [if_neg (by rintro (h | h); exact itoa_ne n h; omega), if_pos (itoa_isDig h0), accD_itoa h0]
  simp
theorem num16_in (s : Str) : 0 ≤ (num16 s).1 ∧ (num16 s).1 ≤ 999999 := by
  unfold num16
  split
  · exact ⟨by decide, by decide⟩
  · rename_i h
    split
    · rename_i hd
      have hb := accD_lt s 0 hd
      have hp : 10 ^ s.length ≤ 10 ^ 6 := Nat.pow_le_pow_right (by decide) (by omega)
      dsimp only; omega
    · exact ⟨by decide, by decide⟩
theorem num16_ok {s : Str} (h : (num16 s).2 = true) : Lib.itoa (num16 s).1 = s := by
  unfold num16 at h ⊢
  split at h
  · cases h
  · rename_i h1
    split at h
    · rename_i h2
      rw [if_neg h1, if_pos h2]
      simpa using h
    · cases h
theorem numW_r (s : Str) : R64 (numW s).1 := by
  have z : R64 0 := by unfold R64; omega
  unfold numW
  split
  · exact z
  · split
    · show R64 (valN s)
      unfold valN
      split
      · rw [IntKind.wrap_i64]; unfold R64; omega
      · rw [IntKind.wrap_i64]; unfold R64; omega
    · exact z
theorem itoa_len19 {n : Int} (h0 : 0 ≤ n) (h1 : n ≤ 9223372036854775807) : (Lib.itoa n).length ≤ 19 := by rw [itoa_dec h0]; exact dec_short 18 n.toNat (by omega)
theorem itoa_neg0 {n : Int} (h0 : 0 ≤ n) : negN (Lib.itoa n) = false := by
  unfold negN
  have hd := itoa_digs h0
  cases hl : Lib.itoa n with
  | nil => exact absurd hl (itoa_ne n)
  | cons c r =>
    rw [hl] at hd
    have hc := hd c List.mem_cons_self
    rw [List.head?_cons, decide_eq_false_iff_not]
    intro e
    injection e with e
    rw [e] at hc
    exact absurd hc.1 (by decide)
theorem numW_itoa {n : Int} (h0 : 0 ≤ n) (h1 : n ≤ 9223372036854775807) : numW (Lib.itoa n) = (n, true) := by
  have hl := itoa_len19 h0 h1
  have hm : magN (Lib.itoa n) = Lib.itoa n := by unfold magN; rw [itoa_neg0 h0]; rfl
  have hv : valN (Lib.itoa n) = n := by
    unfold valN; rw [itoa_neg0 h0, hm, accD_itoa h0]
    show IntKind.i64.wrap n = n
    rw [IntKind.wrap_i64]; omega
  unfold numW
  rw [hm, hv, if_neg (by rintro (h | h); exact itoa_ne n h; omega), if_pos (itoa_isDig h0)]
  simp
theorem num30_itoa {n : Int} (h0 : 0 ≤ n) (h1 : n ≤ most) : num30 (Lib.itoa n) = n := by
  unfold num30
  rw [numW_itoa h0 (most_r h1)]
  rw [if_neg]
  rintro (h | h | h)
  · cases h
  · dsimp only at h; omega
  · dsimp only at h; omega
theorem num30_r (s : Str) : R64 (num30 s) := by
  unfold num30
  split
  · unfold R64; omega
  · exact numW_r s
/-! ### picks -/
theorem pickS_run0 {n : Int} (h0 : 0 ≤ n) (h1 : n ≤ 999999) : pickS ⟨0, n, 0⟩ = (Lib.itoa n, true) := by
  unfold pickS; dsimp only; rw [if_neg (by omega), if_pos rfl, if_neg (by omega)]
theorem pickS_run {n d : Int} (h0 : 0 ≤ n) (h1 : n ≤ 999999) (h2 : 0 < d) (h3 : d ≤ 999999) : pickS ⟨0, n, d⟩ = (Lib.itoa n ++ [46] ++ Lib.itoa d, true) := by
  unfold pickS; dsimp only; rw [if_neg (by omega), if_pos rfl, if_pos h2]
theorem pickS_spur {n : Int} (h0 : 0 ≤ n) (h1 : n ≤ 999999) : pickS ⟨1, n, 0⟩ = ([115] ++ Lib.itoa n, true) := by
  unfold pickS; dsimp only; rw [if_neg (by omega), if_neg (by omega), if_pos rfl]; rfl
def pick16 (s : Str) : Pk × Bool :=
  if s = [116] then (⟨2, 0, 0⟩, true)
  else if Lib.hasPrefix s [115] = true then (⟨1, (num16 (s.drop 1)).1, 0⟩, (num16 (s.drop 1)).2)
  else if (Lib.cut s [46]).2.2 = true then (⟨0, (num16 (Lib.cut s [46]).1).1, (num16 (Lib.cut s [46]).2.1).1⟩, (num16 (Lib.cut s [46]).1).2 && ((num16 (Lib.cut s [46]).2.1).2 && decide ((num16 (Lib.cut s [46]).2.1).1 > 0)))
  else (⟨0, (num16 s).1, 0⟩, (num16 s).2)
theorem pick16_ok {w : Str} (h : (pick16 w).2 = true) : pickS (pick16 w).1 = (w, true) := by
  unfold pick16 at h ⊢
  split at h
  · rename_i h1
    rw [if_pos h1, h1]; decide
  · rename_i h1
    rw [if_neg h1]
    split at h
    · rename_i h2
      rw [if_pos h2]
      have hn := num16_in (w.drop 1)
      rw [pickS_spur hn.1 hn.2, num16_ok h]
      cases w with
      | nil => cases h2
      | cons c r =>
        have : c = 115 := by
          unfold Lib.hasPrefix at h2
          simp [List.isPrefixOf] at h2
          exact h2.symm
        rw [this]; rfl
    · rename_i h2
      rw [if_neg h2]
      split at h
      · rename_i h3
        rw [if_pos h3]
        simp only [Bool.and_eq_true, decide_eq_true_eq] at h
        have hn := num16_in (Lib.cut w [46]).1
        have hd := num16_in (Lib.cut w [46]).2.1
        rw [pickS_run hn.1 hn.2 h.2.2 hd.2, num16_ok h.1, num16_ok h.2.1]
        by_cases hm : (46 : UInt8) ∈ w
        · obtain ⟨a, b, hw, ha⟩ := List.eq_append_cons_of_mem hm
          have hc := cut_first (first_one ha) b
          have e : a ++ [46] ++ b = w := by rw [hw]; simp
          rw [e] at hc
          rw [hc, e]
        · rw [cut_none (first_one hm)] at h3
          cases h3
      · rename_i h3
        rw [if_neg h3]
        have hn := num16_in w
        rw [pickS_run0 hn.1 hn.2, num16_ok h]
theorem pick16_back {p : Pk} {t : Str} (h : pickS p = (t, true)) : pick16 t = (p, true) := by
  have hb := pick_back h
  obtain ⟨k, th, dr⟩ := p
  unfold pickS at h
  dsimp only at h
  split at h
  · cases h
  rename_i hbd
  have h1 : 0 ≤ th ∧ th ≤ 999999 ∧ 0 ≤ dr ∧ dr ≤ 999999 := by omega
  have o1 : ∀ {c : UInt8}, (c.toNat < 48 ∨ 57 < c.toNat) → c ∉ Lib.itoa th := fun hc => itoa_out h1.1 hc
  have ne1 := itoa_ne th
  have head : ∀ r : Str, Lib.itoa th ++ r ≠ [116] ∧ Lib.hasPrefix (Lib.itoa th ++ r) [115] = false := by
    intro r
    have hd := itoa_digs h1.1
    cases hl : Lib.itoa th with
    | nil => exact absurd hl ne1
    | cons c q =>
      rw [hl] at hd
      have hc := hd c List.mem_cons_self
      refine ⟨fun e => ?_, ?_⟩
      · injection e with e _
        subst e
        have e2 : (116 : UInt8).toNat = 116 := rfl
        omega
      · unfold Lib.hasPrefix
        rw [List.cons_append, List.isPrefixOf]
        have : ((115 : UInt8) == c) = false := by
          rw [beq_eq_false_iff_ne]
          rintro rfl
          have e2 : (115 : UInt8).toNat = 115 := rfl
          omega
        rw [this]; rfl
  split at h
  · rename_i hk
    subst hk
    split at h
    · rename_i hd
      injection h with h _
      subst h
      unfold pick16
      have hh := head ([46] ++ Lib.itoa dr)
      rw [← List.append_assoc] at hh
      rw [if_neg hh.1, hh.2, if_neg (by simp), cut_first (first_one (o1 (.inl (by decide))))]
      dsimp only
      rw [if_pos rfl, num16_itoa h1.1 h1.2.1, num16_itoa h1.2.2.1 h1.2.2.2]
      simp [hd]
    · rename_i hd
      injection h with h _
      subst h
      have hdr : dr = 0 := by omega
      subst hdr
      unfold pick16
      have hh := head []
      rw [List.append_nil] at hh
      rw [if_neg hh.1, hh.2, if_neg (by simp), cut_none (first_one (o1 (.inl (by decide))))]
      dsimp only
      rw [if_neg (by simp), num16_itoa h1.1 h1.2.1]
  · split at h
    · rename_i hk
      subst hk
      injection h with h hd
      subst h
      have hdr : dr = 0 := by simpa using hd
      subst hdr
      unfold pick16
      have hp : Lib.hasPrefix ([115] ++ Lib.itoa th) [115] = true := by simp [Lib.hasPrefix, List.isPrefixOf]
      have ht : ([115] ++ Lib.itoa th).drop 1 = Lib.itoa th := rfl
      rw [if_neg (by simp), if_pos hp, ht, num16_itoa h1.1 h1.2.1]
    · injection h with h hd
      subst h
      have := of_decide_eq_true hd
      rw [this]
      unfold pick16
      rw [if_pos rfl]
theorem pick16_P {w : Str} (h : (pick16 w).2 = true) : pickP w = (pick16 w).1 := (pick_back (pick16_ok h)).1
theorem pickOk_16 (n : Nat) (w : Str) : pickOk n w = ((pick16 w).2 && decide (n < 20000)) := by
  cases h : (pick16 w).2 with
  | true =>
    unfold pickOk
    rw [pick16_P h, pick16_ok h]; simp
  | false =>
    rw [Bool.false_and, Bool.eq_false_iff]
    intro hk
    unfold pickOk at hk
    simp only [Bool.and_eq_true, beq_iff_eq] at hk
    have := pick16_back (p := pickP w) (t := w) (Prod.ext hk.1.2 hk.1.1)
    rw [this] at h; cases h
theorem pick16_r (w : Str) : (pick16 w).1.ok := by
  have z : R64 0 := by unfold R64; omega
  have hn : ∀ s, R64 (num16 s).1 := fun s => by have := num16_in s; unfold R64; omega
  unfold pick16
  split
  · exact ⟨by show R64 2; unfold R64; omega, z, z⟩
  split
  · exact ⟨by show R64 1; unfold R64; omega, hn _, z⟩
  split
  · exact ⟨z, hn _, hn _⟩
  · exact ⟨z, hn _, z⟩
end Go.Proofs.YtblnfodnkacbbaaGreatDoor.Q

namespace Go.Proofs.YtblnfodnkacbbaaGreatDoor.Q
open Go.RowKit
variable [Amb]
theorem one16_c (p : Pk) (hp : p.ok) : PFun Tryz.prog 81 [p.v] [] (.tup [sv' (pickS p).1, .d (.bool (pickS p).2)]) [] := by
  have s1 := itoa_short hp.2.1
  have s2 := itoa_short hp.2.2
  have out : ∀ {x : Str × Bool}, pickS p = x → V.tup [sv' x.1, .d (.bool x.2)] = V.tup [sv' (pickS p).1, .d (.bool (pickS p).2)] := fun h => by rw [h]
  have bad : p.thread < 0 ∨ p.draw < 0 ∨ 999999 < p.thread ∨ 999999 < p.draw → pickS p = ([], false) := fun h => by unfold pickS; rw [if_pos h]
  refine fn_sem pok 60 0 Tryz.func81 (by kernel_rfl) rfl rfl rfl rfl ?_
  refine SWp.go pok (by kernel_rfl) ?_
  refine brP_split (fun h1 => ?_) (fun h1 => ?_)
  · exact fin1 (out (x := ([], false)) (bad (.inl (of_decide_eq_true h1))))
  refine brP_split (fun h2 => ?_) (fun h2 => ?_)
  · exact fin1 (out (x := ([], false)) (bad (.inr (.inl (of_decide_eq_true h2)))))
  refine brP_split (fun h3 => ?_) (fun h3 => ?_)
  · exact fin1 (out (x := ([], false)) (bad (.inr (.inr (.inl (of_decide_eq_true h3))))))
  refine brP_split (fun h4 => ?_) (fun h4 => ?_)
  · exact fin1 (out (x := ([], false)) (bad (.inr (.inr (.inr (of_decide_eq_true h4))))))
  have h1 := of_decide_eq_false h1
  have h2 := of_decide_eq_false h2
  have h3 := of_decide_eq_false h3
  have h4 := of_decide_eq_false h4
  have hb : ¬ (p.thread < 0 ∨ p.draw < 0 ∨ 999999 < p.thread ∨ 999999 < p.draw) := by omega
  refine PFun.call (digits_all hp.2.1) ?_
  refine brP_split (fun h5 => ?_) (fun h5 => ?_)
  · have k3 : p.kind = 0 := by simpa using h5
    refine brP_split (fun h6 => ?_) (fun h6 => ?_)
    · have k4 : 0 < p.draw := by simpa using h6
      refine ⟨by simp; omega, ?_⟩
      refine PFun.call (digits_all hp.2.2) ?_
      refine ⟨by simp; omega, ?_⟩
      refine fin1 (out (x := (Lib.itoa p.thread ++ [46] ++ Lib.itoa p.draw, true)) ?_)
      unfold pickS
      rw [if_neg hb, if_pos k3, if_pos k4]
    · have k4 : ¬ 0 < p.draw := by simpa using h6
      refine fin1 (out (x := (Lib.itoa p.thread, true)) ?_)
      unfold pickS
      rw [if_neg hb, if_pos k3, if_neg k4]
  · have k3 : ¬ p.kind = 0 := by simpa using h5
    refine brP_split (fun h6 => ?_) (fun h6 => ?_)
    · have k4 : p.kind = 1 := by simpa using h6
      refine ⟨by simp; omega, ?_⟩
      refine brP_split (fun h7 => ?_) (fun h7 => ?_)
      · refine fin1 (out (x := ([115] ++ Lib.itoa p.thread, true)) ?_)
        unfold pickS
        rw [if_neg hb, if_neg k3, if_pos k4, decide_eq_true (by simpa using h7)]
      · refine fin1 (out (x := ([115] ++ Lib.itoa p.thread, false)) ?_)
        unfold pickS
        rw [if_neg hb, if_neg k3, if_pos k4, decide_eq_false (by simpa using h7)]
    · have k4 : ¬ p.kind = 1 := by simpa using h6
      have no : p ≠ ⟨2, 0, 0⟩ → pickS p = ([116], false) := fun h => by
        unfold pickS
        rw [if_neg hb, if_neg k3, if_neg k4, decide_eq_false h]
      refine brP_split (fun h7 => ?_) (fun h7 => ?_)
      · refine brP_split (fun h8 => ?_) (fun h8 => ?_)
        · refine brP_split (fun h9 => ?_) (fun h9 => ?_)
          · refine fin1 (out (x := ([116], true)) ?_)
            unfold pickS
            rw [if_neg hb, if_neg k3, if_neg k4, decide_eq_true]
            obtain ⟨a, b, c⟩ := p
            simp at h7 h8 h9
            rw [h7, h8, h9]
          · refine fin1 (out (x := ([116], false)) (no ?_))
            rintro rfl
            exact absurd h9 (by decide)
        · refine fin1 (out (x := ([116], false)) (no ?_))
          rintro rfl
          exact absurd h8 (by decide)
      · refine fin1 (out (x := ([116], false)) (no ?_))
        rintro rfl
        exact absurd h7 (by decide)
theorem pick16_c (s : Str) (hs : s.length ≤ 1048576) : PFun Tryz.prog 142 [sv' s] [] (.tup [(pick16 s).1.v, .d (.bool (pick16 s).2)]) [] := by
  have out : ∀ {x : Pk × Bool}, pick16 s = x → V.tup [x.1.v, .d (.bool x.2)] = V.tup [(pick16 s).1.v, .d (.bool (pick16 s).2)] := fun h => by rw [h]
  refine fn_sem pok 77 0 Tryz.func142 (by kernel_rfl) rfl rfl rfl rfl ?_
  refine SWp.go pok (by kernel_rfl) ?_
  refine brP_split (fun h1 => ?_) (fun h1 => ?_)
  · have h1 : s = [116] := by simpa using h1
    refine fin1 (out (x := (⟨2, 0, 0⟩, true)) ?_)
    unfold pick16; rw [if_pos h1]
  have h1 : s ≠ [116] := by simpa using h1
  have rest : Lib.hasPrefix s [115] = false → pick16 s = if (Lib.cut s [46]).2.2 = true then (⟨0, (num16 (Lib.cut s [46]).1).1, (num16 (Lib.cut s [46]).2.1).1⟩, (num16 (Lib.cut s [46]).1).2 && ((num16 (Lib.cut s [46]).2.1).2 && decide ((num16 (Lib.cut s [46]).2.1).1 > 0))) else (⟨0, (num16 s).1, 0⟩, (num16 s).2) := fun h => by
    unfold pick16; rw [if_neg h1, if_neg (by rw [h]; decide)]
  refine brP_split (fun h0 => ?_) (fun h0 => ?_)
  · have h0 : 0 < s.length := by simpa using h0
    obtain ⟨c, r, hcr⟩ : ∃ c r, s = c :: r := by cases s with
      | nil => exact absurd h0 (by simp)
      | cons c r => exact ⟨c, r, rfl⟩
    refine PIdx.at' (i := 0) (x := c) rfl (by rw [hcr]; rfl) ?_
    refine brP_split (fun h2 => ?_) (fun h2 => ?_)
    · have h2 : c = 115 := by
        have : c.toNat = 115 := by simp at h2; omega
        exact UInt8.toNat_inj.1 this
      refine ⟨by show cutOk s.length (some 1) none; unfold cutOk; omega, ?_⟩
      refine PFun.call (num16_c (s.drop 1) (by rw [List.length_drop]; omega)) ?_
      refine fin1 (out (x := (⟨1, (num16 (s.drop 1)).1, 0⟩, (num16 (s.drop 1)).2)) ?_)
      unfold pick16; rw [if_neg h1, if_pos (by rw [hcr, h2]; rfl)]
    · have h2 : ¬ c = 115 := by
        rintro rfl
        exact absurd h2 (by decide)
      have hp : Lib.hasPrefix s [115] = false := by
        rw [hcr]; unfold Lib.hasPrefix; simp [List.isPrefixOf]; exact fun e => h2 e.symm
      refine SWp.loop (fun i : Nat => i ≤ s.length ∧ (46 : UInt8) ∉ s.take i) (fun i => ([(0, sv' s), (2, .ptr 0 0), (6, iv i)], [.box [iv 0, iv 0, iv 0]])) (fun i => s.length - i) 0 ⟨Nat.zero_le _, by simp⟩ (Le.same ⟨rfl, rfl, rfl, trivial⟩) (fun i hi => ?_)
      obtain ⟨hi, hd⟩ := hi
      dsimp only
      refine SWp.go pok (by kernel_rfl) ?_
      refine brP_split (fun h => ?_) (fun h => ?_)
      · have hlt : i < s.length := by simpa using h
        refine PIdx.at' (i := i) rfl (List.getElem?_eq_getElem hlt) ?_
        refine brP_split (fun h3 => ?_) (fun h3 => ?_)
        · have h3 : s[i] = 46 := by
            have : s[i].toNat = 46 := by simp at h3; omega
            exact UInt8.toNat_inj.1 this
          have hc : Lib.cut s [46] = (s.take i, s.drop (i + 1), true) := by
            have := cut_first (first_one hd) (s.drop (i + 1))
            have e : s.take i ++ [46] ++ s.drop (i + 1) = s := by
              rw [← h3, List.append_assoc, List.singleton_append, List.getElem_cons_drop, List.take_append_drop]
            rw [e] at this; exact this
          have w1 : IntKind.i64.wrap ((i : Int) + 1) = ((i + 1 : Nat) : Int) := wrap_nat i (by omega)
          have n1 : PFun Tryz.prog 190 [sv' (cutFrom (cutTo s none) (some (IntKind.i64.wrap ((i : Int) + 1))))] [] (.tup [iv (num16 (s.drop (i + 1))).1, .d (.bool (num16 (s.drop (i + 1))).2)]) [] := by
            rw [w1]; exact num16_c (s.drop (i + 1)) (by rw [List.length_drop]; omega)
          refine ⟨by show cutOk s.length none (some (i : Int)); unfold cutOk; omega, ?_⟩
          refine PFun.call (num16_c (s.take i) (by rw [List.length_take]; omega)) ?_
          refine ⟨by rw [w1]; show cutOk s.length (some ((i + 1 : Nat) : Int)) none; unfold cutOk; omega, ?_⟩
          refine PFun.call n1 ?_
          have e := rest hp
          rw [hc] at e
          dsimp only at e
          rw [if_pos rfl] at e
          refine brP_split (fun k1 => ?_) (fun k1 => ?_)
          · rw [k1, Bool.true_and] at e
            refine brP_true k1 ?_
            refine brP_split (fun k2 => ?_) (fun k2 => ?_)
            · rw [k2, Bool.true_and] at e
              refine brP_true k2 ?_
              refine brP_split (fun k3 => ?_) (fun k3 => ?_)
              · rw [k3] at e
                first | exact fin1 (out e) | exact brP_true k2 (fin1 (out e))
              · rw [k3] at e
                first | exact fin1 (out e) | exact brP_true k2 (fin1 (out e))
            · rw [k2, Bool.false_and] at e
              refine brP_false k2 ?_
              first | exact fin1 (out e) | exact brP_false k2 (fin1 (out e))
          · rw [k1, Bool.false_and] at e
            refine brP_false k1 ?_
            exact fin1 (out e)
        · have h3 : ¬ s[i] = 46 := by
            intro e; rw [e] at h3; exact absurd h3 (by decide)
          refine ⟨i + 1, ⟨hlt, ?_⟩, by omega, Le.same ⟨rfl, rfl, sint (wrap_nat i (by omega)), trivial⟩⟩
          rw [take_snoc s i hlt, List.mem_append, List.mem_singleton]
          rintro (h | h)
          · exact hd h
          · exact h3 h.symm
      · have hk : i = s.length := by simp at h; omega
        subst hk
        rw [List.take_length] at hd
        refine PFun.call (num16_c s hs) ?_
        have e := rest hp
        rw [cut_none (first_one hd)] at e
        dsimp only at e
        rw [if_neg (by decide)] at e
        exact fin1 (out e)
  · have hp : Lib.hasPrefix s [115] = false := by
      cases s with
      | nil => rfl
      | cons c r => simp at h0
    refine SWp.loop (fun i : Nat => i ≤ s.length ∧ (46 : UInt8) ∉ s.take i) (fun i => ([(0, sv' s), (2, .ptr 0 0), (6, iv i)], [.box [iv 0, iv 0, iv 0]])) (fun i => s.length - i) 0 ⟨Nat.zero_le _, by simp⟩ (Le.same ⟨rfl, rfl, rfl, trivial⟩) (fun i hi => ?_)
    obtain ⟨hi, hd⟩ := hi
    dsimp only
    refine SWp.go pok (by kernel_rfl) ?_
    refine brP_split (fun h => ?_) (fun h => ?_)
    · have hlt : i < s.length := by simpa using h
      refine PIdx.at' (i := i) rfl (List.getElem?_eq_getElem hlt) ?_
      refine brP_split (fun h3 => ?_) (fun h3 => ?_)
      · have h3 : s[i] = 46 := by
          have : s[i].toNat = 46 := by simp at h3; omega
          exact UInt8.toNat_inj.1 this
        have hc : Lib.cut s [46] = (s.take i, s.drop (i + 1), true) := by
          have := cut_first (first_one hd) (s.drop (i + 1))
          have e : s.take i ++ [46] ++ s.drop (i + 1) = s := by
            rw [← h3, List.append_assoc, List.singleton_append, List.getElem_cons_drop, List.take_append_drop]
          rw [e] at this; exact this
        have w1 : IntKind.i64.wrap ((i : Int) + 1) = ((i + 1 : Nat) : Int) := wrap_nat i (by omega)
        have n1 : PFun Tryz.prog 190 [sv' (cutFrom (cutTo s none) (some (IntKind.i64.wrap ((i : Int) + 1))))] [] (.tup [iv (num16 (s.drop (i + 1))).1, .d (.bool (num16 (s.drop (i + 1))).2)]) [] := by
          rw [w1]; exact num16_c (s.drop (i + 1)) (by rw [List.length_drop]; omega)
        refine ⟨by show cutOk s.length none (some (i : Int)); unfold cutOk; omega, ?_⟩
        refine PFun.call (num16_c (s.take i) (by rw [List.length_take]; omega)) ?_
        refine ⟨by rw [w1]; show cutOk s.length (some ((i + 1 : Nat) : Int)) none; unfold cutOk; omega, ?_⟩
        refine PFun.call n1 ?_
        have e := rest hp
        rw [hc] at e
        dsimp only at e
        rw [if_pos rfl] at e
        refine brP_split (fun k1 => ?_) (fun k1 => ?_)
        · rw [k1, Bool.true_and] at e
          refine brP_true k1 ?_
          refine brP_split (fun k2 => ?_) (fun k2 => ?_)
          · rw [k2, Bool.true_and] at e
            refine brP_true k2 ?_
            refine brP_split (fun k3 => ?_) (fun k3 => ?_)
            · rw [k3] at e
              first | exact fin1 (out e) | exact brP_true k2 (fin1 (out e))
            · rw [k3] at e
              first | exact fin1 (out e) | exact brP_true k2 (fin1 (out e))
          · rw [k2, Bool.false_and] at e
            refine brP_false k2 ?_
            first | exact fin1 (out e) | exact brP_false k2 (fin1 (out e))
        · rw [k1, Bool.false_and] at e
          refine brP_false k1 ?_
          exact fin1 (out e)
      · have h3 : ¬ s[i] = 46 := by
          intro e; rw [e] at h3; exact absurd h3 (by decide)
        refine ⟨i + 1, ⟨hlt, ?_⟩, by omega, Le.same ⟨rfl, rfl, sint (wrap_nat i (by omega)), trivial⟩⟩
        rw [take_snoc s i hlt, List.mem_append, List.mem_singleton]
        rintro (h | h)
        · exact hd h
        · exact h3 h.symm
    · have hk : i = s.length := by simp at h; omega
      subst hk
      rw [List.take_length] at hd
      refine PFun.call (num16_c s hs) ?_
      have e := rest hp
      rw [cut_none (first_one hd)] at e
      dsimp only at e
      rw [if_neg (by decide)] at e
      exact fin1 (out e)
theorem join_snoc (sep y : Str) (xs : List Str) : Lib.join (xs ++ [y]) sep = if xs = [] then y else Lib.join xs sep ++ sep ++ y := by
  split
  · rename_i h; subst h; rw [List.nil_append, Lib.join_one]
  · rename_i h; rw [join_app sep xs [y] h (by simp), Lib.join_one]
theorem put16_c (l : List Pk) (hl : ∀ p ∈ l, p.ok) (hn : l.length ≤ 1073741824) : PFun Tryz.prog 46 [.d (.sl (l.map Pk.e))] [] (.tup [sv' (putPs l).1, iv (putPs l).2]) [] := by
  have out : ∀ {x : Str × Int}, putPs l = x → V.tup [sv' x.1, iv x.2] = V.tup [sv' (putPs l).1, iv (putPs l).2] := fun h => by rw [h]
  refine fn_sem pok 35 0 Tryz.func46 (by kernel_rfl) rfl rfl rfl rfl ?_
  refine SWp.go pok (by kernel_rfl) ?_
  refine brP_split (fun h1 => ?_) (fun h1 => ?_)
  · refine fin1 (out (x := ([], 6)) ?_)
    unfold putPs
    rw [if_pos (by simp at h1; omega)]
  have hm : ¬ 20000 < l.length := by simp at h1; omega
  refine SWp.loop (fun k : Nat => k ≤ l.length ∧ ((l.take k).all fun p => (pickS p).2) = true)
    (fun k => ([(0, .d (.sl (l.map Pk.e))), (4, sv' (Lib.join ((l.take k).map fun p => (pickS p).1) [32])), (5, iv k)], []))
    (fun k => l.length - k) 0 ⟨Nat.zero_le _, rfl⟩ (Le.same ⟨rfl, rfl, rfl, trivial⟩) (fun k hk => ?_)
  obtain ⟨hk, ha⟩ := hk
  dsimp only
  have hj := join_short [32] 41 ((l.take k).map fun p => (pickS p).1) (fun w hw => by
    obtain ⟨p, hp, rfl⟩ := List.mem_map.1 hw
    exact pickS_short (hl p (List.mem_of_mem_take hp)))
  rw [List.length_map, List.length_take, List.length_singleton] at hj
  refine SWp.go pok (by kernel_rfl) ?_
  refine brP_split (fun h => ?_) (fun h => ?_)
  · have hlt : k < l.length := by simpa using h
    have hsh := pickS_short (hl _ (List.getElem_mem hlt))
    have htk : ((l.take (k + 1)).all fun p => (pickS p).2) = (pickS l[k]).2 := by
      rw [take_snoc l k hlt, List.all_append, ha]; simp
    have hjn : Lib.join ((l.take (k + 1)).map fun p => (pickS p).1) [32] = if k = 0 then (pickS l[k]).1 else Lib.join ((l.take k).map fun p => (pickS p).1) [32] ++ [32] ++ (pickS l[k]).1 := by
      rw [take_snoc l k hlt, List.map_append, List.map_cons, List.map_nil, join_snoc]
      by_cases hz : k = 0
      · subst hz; rfl
      · rw [if_neg hz, if_neg]
        intro e
        have := congrArg List.length e
        rw [List.length_map, List.length_take, List.length_nil] at this; omega
    generalize Lib.join ((l.take k).map fun p => (pickS p).1) [32] = J at hj hjn ⊢
    refine PIdx.map (get_at hlt) ?_
    refine PFun.call (one16_c l[k] (hl _ (List.getElem_mem hlt))) ?_
    refine brP_split (fun h2 => ?_) (fun h2 => ?_)
    · have h2 : (pickS l[k]).2 = false := by simpa using h2
      refine fin1 (out (x := ([], 2)) ?_)
      unfold putPs
      rw [if_neg hm, if_neg]
      rw [List.all_eq_true]
      intro hall
      have := hall _ (List.getElem_mem hlt)
      rw [h2] at this; cases this
    · have h2 : (pickS l[k]).2 = true := by simpa using h2
      refine brP_split (fun h3 => ?_) (fun h3 => ?_)
      · have h3 : ¬ k = 0 := by simp at h3; omega
        refine ⟨by show J.length + 1 ≤ 4611686018427387904; omega, ?_⟩
        refine ⟨by rw [List.length_append]; show J.length + 1 + _ ≤ 4611686018427387904; omega, ?_⟩
        refine ⟨k + 1, ⟨hlt, by rw [htk]; exact h2⟩, by omega, Le.same ⟨rfl, sv ?_, sint (wrap_nat k (by omega)), trivial⟩⟩
        rw [hjn, if_neg h3]
      · have h3 : k = 0 := by simp at h3; omega
        refine ⟨by show J.length + _ ≤ 4611686018427387904; omega, ?_⟩
        refine ⟨k + 1, ⟨hlt, by rw [htk]; exact h2⟩, by omega, Le.same ⟨rfl, sv ?_, sint (wrap_nat k (by omega)), trivial⟩⟩
        rw [hjn, if_pos h3]
        have hJ : J = [] := List.eq_nil_of_length_eq_zero (by rw [h3] at hj; omega)
        rw [hJ]; rfl
  · have hk' : k = l.length := by simp at h; omega
    subst hk'
    rw [List.take_length] at ha ⊢
    refine fin1 (out (x := (Lib.join (l.map fun p => (pickS p).1) [32], 0)) ?_)
    unfold putPs
    rw [if_neg hm, if_pos ha]
theorem put18_c (l : Ls) (hl : l.ok) (h1 : l.stem.length ≤ 1073741824) (h2 : l.loop.length ≤ 1073741824) : PFun Tryz.prog 25 [l.v] [] (.tup [sv' (putL l).1, iv (putL l).2]) [] := by
  have out : ∀ {x : Str × Int}, putL l = x → V.tup [sv' x.1, iv x.2] = V.tup [sv' (putL l).1, iv (putL l).2] := fun h => by rw [h]
  have p1 := putPs_short hl.1
  have p2 := putPs_short hl.2.1
  have p3 := itoa_short hl.2.2
  refine fn_sem pok 43 0 Tryz.func25 (by kernel_rfl) rfl rfl rfl rfl ?_
  refine SWp.go pok (by kernel_rfl) ?_
  refine PFun.call (put16_c l.stem hl.1 h1) ?_
  refine brP_split (fun h3 => ?_) (fun h3 => ?_)
  · have h3 : ¬ (putPs l.stem).2 = 0 := by simpa using h3
    refine fin1 (out (x := ([], (putPs l.stem).2)) ?_)
    unfold putL
    rw [if_pos h3]
  have h3 : (putPs l.stem).2 = 0 := by simpa using h3
  refine PFun.call (put16_c l.loop hl.2.1 h2) ?_
  refine brP_split (fun h4 => ?_) (fun h4 => ?_)
  · have h4 : ¬ (putPs l.loop).2 = 0 := by simpa using h4
    refine fin1 (out (x := ([], (putPs l.loop).2)) ?_)
    unfold putL
    rw [if_neg (by rw [h3]; decide), if_pos h4]
  have h4 : (putPs l.loop).2 = 0 := by simpa using h4
  have bad : (l.thread < 0 ∨ 999999 < l.thread) → putL l = ([], 2) := fun h => by
    unfold putL
    rw [if_neg (by rw [h3]; decide), if_neg (by rw [h4]; decide), if_pos h]
  refine brP_split (fun h5 => ?_) (fun h5 => ?_)
  · exact fin1 (out (x := ([], 2)) (bad (.inl (by simpa using h5))))
  refine brP_split (fun h6 => ?_) (fun h6 => ?_)
  · exact fin1 (out (x := ([], 2)) (bad (.inr (by simpa using h6))))
  refine ⟨by simp; omega, ?_⟩
  refine ⟨by simp; omega, ?_⟩
  refine ⟨by simp; omega, ?_⟩
  refine PFun.call (digits_all hl.2.2) ?_
  refine ⟨by simp; omega, ?_⟩
  refine fin1 (out (x := ((putPs l.stem).1 ++ [32, 124, 32] ++ (putPs l.loop).1 ++ [32, 124, 32] ++ Lib.itoa l.thread, 0)) ?_)
  unfold putL
  simp only [decide_eq_false_iff_not] at h5 h6
  rw [if_neg (by rw [h3]; decide), if_neg (by rw [h4]; decide), if_neg (by omega), join_two, join_two, Lib.join_one]
  simp [bar]
end Go.Proofs.YtblnfodnkacbbaaGreatDoor.Q

namespace Go.Proofs.YtblnfodnkacbbaaGreatDoor.Q
open Go.RowKit
theorem mid_split (s : Str) {a i : Nat} (h : a ≤ i) (hi : i ≤ s.length) : s.drop a = (s.take i).drop a ++ s.drop i := by
  rw [← List.drop_append_of_le_length (by rw [List.length_take]; omega), List.take_append_drop]
theorem mid_snoc (s : Str) {a i : Nat} (h : a ≤ i) (hi : i < s.length) : (s.take (i + 1)).drop a = (s.take i).drop a ++ [s[i]] := by
  rw [take_snoc s i hi, List.drop_append_of_le_length (by rw [List.length_take]; omega)]
theorem split_at (s : Str) {a i : Nat} (h : a ≤ i) (hi : i < s.length) (hc : s[i] = 32) (hw : (32 : UInt8) ∉ (s.take i).drop a) : Lib.split (s.drop a) [32] = (s.take i).drop a :: Lib.split (s.drop (i + 1)) [32] := by
  have e : s.drop a = (s.take i).drop a ++ [32] ++ s.drop (i + 1) := by
    rw [mid_split s h (by omega), ← hc, List.append_assoc, List.singleton_append, List.getElem_cons_drop]
  rw [e, split_first (by decide) (first_one hw)]
theorem split_end (s : Str) {a : Nat} (hw : (32 : UInt8) ∉ (s.take s.length).drop a) : Lib.split (s.drop a) [32] = [(s.take s.length).drop a] := by
  rw [List.take_length] at hw ⊢
  exact split_miss (first_one hw).1
theorem parsePs_go {s : Str} (h : s ≠ []) : parsePs s = match pksGo [] (Lib.split s [32]) with
    | some l => (l, 0)
    | none => ([], 2) := by unfold parsePs; rw [if_neg h]; rfl
def PInv (s : Str) (i a : Nat) (l : List Pk) : Prop :=
  (∀ p ∈ l, p.ok) ∧ l.length ≤ 20000 ∧ ((i ≤ s.length ∧ a ≤ i ∧ (32 : UInt8) ∉ (s.take i).drop a ∧ pksGo [] (Lib.split s [32]) = pksGo l (Lib.split (s.drop a) [32])) ∨ (i = s.length + 1 ∧ pksGo [] (Lib.split s [32]) = some l))
variable [Amb]
theorem parse16_c (s : Str) (hs : s.length ≤ 1048576) : PFun Tryz.prog 90 [sv' s] [] (.tup [.d (.sl ((parsePs s).1.map Pk.e)), iv (parsePs s).2]) [] := by
  have out : ∀ {x : List Pk × Int}, parsePs s = x → V.tup [.d (.sl (x.1.map Pk.e)), iv x.2] = V.tup [.d (.sl ((parsePs s).1.map Pk.e)), iv (parsePs s).2] := fun h => by rw [h]
  refine fn_sem pok 51 0 Tryz.func90 (by kernel_rfl) rfl rfl rfl rfl ?_
  refine SWp.go pok (by kernel_rfl) ?_
  refine SWp.tipSlot 4 3 rfl ?_
  by_cases hne : s = []
  · subst hne
    refine SWp.loop (fun i : Nat => i = 0) (fun i => ([(0, sv' []), (4, .gsl [] 0), (5, iv 0), (6, iv 0)], [.tip 3 0])) (fun i => 0) 0 rfl (Le.same ⟨rfl, rfl, rfl, rfl, trivial⟩) (fun i hi => ?_)
    refine SWp.go pok (by kernel_rfl) ?_
    exact fin1 (out (x := ([], 0)) rfl)
  have hne' : (s != []) = true := by simpa using hne
  refine SWp.loop (fun q : Nat × Nat × List Pk × List (List D) => PInv s q.1 q.2.1 q.2.2.1 ∧ q.2.2.2 = q.2.2.1.map Pk.e)
    (fun q => ([(0, sv' s), (4, .gsl q.2.2.2 0), (5, iv q.2.1), (6, iv q.1)], [.tip 3 q.2.2.2.length]))
    (fun q => s.length + 1 - q.1) (0, 0, [], []) ⟨⟨by simp, by simp, .inl ⟨Nat.zero_le _, Nat.le_refl _, by simp, rfl⟩⟩, rfl⟩ (Le.same ⟨rfl, rfl, rfl, rfl, trivial⟩) (fun q hq => ?_)
  obtain ⟨i, a, l, rows⟩ := q
  obtain ⟨⟨hok, hlen, hq⟩, hrows⟩ := hq
  dsimp only at hok hlen hq hrows ⊢
  subst hrows
  refine SWp.go pok (by kernel_rfl) ?_
  refine brP_split (fun h => ?_) (fun h => ?_)
  · have hi : i ≤ s.length := by simpa using h
    obtain ⟨_, ha, hw, hp⟩ | ⟨h2, _⟩ := hq
    rotate_left
    · omega
    refine brP_split (fun h0 => ?_) (fun h0 => ?_)
    rotate_left
    · exact absurd h0 (by simpa using hne)
    refine brP_split (fun h3 => ?_) (fun h3 => ?_)
    · have hlt : i < s.length := by simpa using h3
      refine PIdx.at' (i := i) rfl (List.getElem?_eq_getElem hlt) ?_
      refine brP_split (fun h4 => ?_) (fun h4 => ?_)
      · have h4 : ¬ s[i] = 32 := by
          intro e; rw [e] at h4; exact absurd h4 (by decide)
        refine ⟨(i + 1, a, l, l.map Pk.e), ⟨⟨hok, hlen, .inl ⟨hlt, by show a ≤ i + 1; omega, ?_, hp⟩⟩, rfl⟩, by show s.length + 1 - (i + 1) < s.length + 1 - i; omega, Le.same ⟨rfl, rfl, rfl, sint (wrap_nat i (by omega)), trivial⟩⟩
        rw [mid_snoc s ha hlt, List.mem_append, List.mem_singleton]
        rintro (h | h)
        · exact hw h
        · exact h4 h.symm
      · have h4 : s[i] = 32 := by
          have : s[i].toNat = 32 := by simp at h4; omega
          exact UInt8.toNat_inj.1 this
        have hws : Lib.split (s.drop a) [32] = (s.take i).drop a :: Lib.split (s.drop (i + 1)) [32] := split_at s ha hlt h4 hw
        have hgo : pksGo l (Lib.split (s.drop a) [32]) = if pickOk l.length ((s.take i).drop a) = true then pksGo (l ++ [pickP ((s.take i).drop a)]) (Lib.split (s.drop (i + 1)) [32]) else none := by rw [hws, pksGo]
        have hpk := pick16_c ((s.take i).drop a) (by rw [List.length_drop, List.length_take]; omega)
        refine ⟨by show cutOk s.length (some (a : Int)) (some (i : Int)); unfold cutOk; omega, ?_⟩
        cases hk : (pick16 ((s.take i).drop a)).2 with
        | false =>
          rw [hk] at hpk
          refine PFun.call hpk ?_
          refine fin1 (out (x := ([], 2)) ?_)
          rw [parsePs_go hne, hp, hgo, pickOk_16, hk]; rfl
        | true =>
          have hP := pick16_P hk
          rw [hk] at hpk
          refine PFun.call hpk ?_
          refine brP_split (fun h5 => ?_) (fun h5 => ?_)
          · refine fin1 (out (x := ([], 2)) ?_)
            rw [parsePs_go hne, hp, hgo, pickOk_16, hk, if_neg (by simp at h5 ⊢; omega)]
          · refine ⟨⟨rfl, fun r hr => ?_, fun r hr => ?_, ?_⟩, ?_⟩
            · obtain ⟨x, _, rfl⟩ := List.mem_map.1 hr; rfl
            · simp [List.replicate, List.set] at hr; subst hr; rfl
            · simp; omega
            have h5 : l.length < 20000 := by simp at h5; omega
            have hp2 : pksGo [] (Lib.split s [32]) = pksGo (l ++ [(pick16 ((s.take i).drop a)).1]) (Lib.split (s.drop (i + 1)) [32]) := by
              rw [hp, hgo, pickOk_16, hk, if_pos (by simpa using h5), hP]
            refine ⟨(i + 1, i + 1, l ++ [(pick16 ((s.take i).drop a)).1], l.map Pk.e ++ [(pick16 ((s.take i).drop a)).1.e]), ⟨⟨fun p hp => ?_, by simp; omega, .inl ⟨hlt, Nat.le_refl _, by show (32 : UInt8) ∉ (s.take (i + 1)).drop (i + 1); rw [List.drop_of_length_le (by rw [List.length_take]; omega)]; simp, hp2⟩⟩, by show _ = (l ++ _).map Pk.e; rw [List.map_append]; rfl⟩, by show s.length + 1 - (i + 1) < s.length + 1 - i; omega, .inr ⟨[0], ⟨rfl, rfl⟩, rfl, rfl, rfl, sint (wrap_nat i (by omega)), sint (wrap_nat i (by omega)), trivial⟩⟩
            rw [List.mem_append, List.mem_singleton] at hp
            rcases hp with hp | rfl
            · exact hok _ hp
            · exact pick16_r _
    · have hk : i = s.length := by simp at h3; omega
      subst hk
      have hws : Lib.split (s.drop a) [32] = (s.take s.length).drop a :: [] := split_end s hw
      have hgo : pksGo l (Lib.split (s.drop a) [32]) = if pickOk l.length ((s.take s.length).drop a) = true then pksGo (l ++ [pickP ((s.take s.length).drop a)]) ([]) else none := by rw [hws]; simp only [pksGo]
      have hpk := pick16_c ((s.take s.length).drop a) (by rw [List.length_drop, List.length_take]; omega)
      refine ⟨by show cutOk s.length (some (a : Int)) (some (s.length : Int)); unfold cutOk; omega, ?_⟩
      cases hk : (pick16 ((s.take s.length).drop a)).2 with
      | false =>
        rw [hk] at hpk
        refine PFun.call hpk ?_
        refine fin1 (out (x := ([], 2)) ?_)
        rw [parsePs_go hne, hp, hgo, pickOk_16, hk]; rfl
      | true =>
        have hP := pick16_P hk
        rw [hk] at hpk
        refine PFun.call hpk ?_
        refine brP_split (fun h5 => ?_) (fun h5 => ?_)
        · refine fin1 (out (x := ([], 2)) ?_)
          rw [parsePs_go hne, hp, hgo, pickOk_16, hk, if_neg (by simp at h5 ⊢; omega)]
        · refine ⟨⟨rfl, fun r hr => ?_, fun r hr => ?_, ?_⟩, ?_⟩
          · obtain ⟨x, _, rfl⟩ := List.mem_map.1 hr; rfl
          · simp [List.replicate, List.set] at hr; subst hr; rfl
          · simp; omega
          have h5 : l.length < 20000 := by simp at h5; omega
          have hp2 : pksGo [] (Lib.split s [32]) = pksGo (l ++ [(pick16 ((s.take s.length).drop a)).1]) ([]) := by
            rw [hp, hgo, pickOk_16, hk, if_pos (by simpa using h5), hP]
          refine ⟨(s.length + 1, s.length + 1, l ++ [(pick16 ((s.take s.length).drop a)).1], l.map Pk.e ++ [(pick16 ((s.take s.length).drop a)).1.e]), ⟨⟨fun p hp => ?_, by simp; omega, .inr ⟨rfl, hp2.trans rfl⟩⟩, by show _ = (l ++ _).map Pk.e; rw [List.map_append]; rfl⟩, by show s.length + 1 - (s.length + 1) < s.length + 1 - s.length; omega, .inr ⟨[0], ⟨rfl, rfl⟩, rfl, rfl, rfl, sint (wrap_nat s.length (by omega)), sint (wrap_nat s.length (by omega)), trivial⟩⟩
          rw [List.mem_append, List.mem_singleton] at hp
          rcases hp with hp | rfl
          · exact hok _ hp
          · exact pick16_r _
  · have hi : i = s.length + 1 := by
      obtain ⟨h1, _⟩ | ⟨h2, _⟩ := hq
      · simp at h; omega
      · exact h2
    obtain ⟨h1, _⟩ | ⟨_, hp⟩ := hq
    · omega
    refine fin1 (out (x := (l, 0)) ?_)
    rw [parsePs_go hne, hp]
end Go.Proofs.YtblnfodnkacbbaaGreatDoor.Q

namespace Go.Proofs.YtblnfodnkacbbaaGreatDoor.Q
open Go.RowKit
/-! ### where the bars stand -/
def isBar (s : Str) (i : Nat) : Bool := (s.take (i + 3)).drop i == [32, 124, 32]
def barsS (s : Str) : List Nat := (List.range s.length).filter (isBar s)
theorem isBar_room {s : Str} {i : Nat} (h : isBar s i = true) : i + 3 ≤ s.length := by
  have := congrArg List.length (eq_of_beq h)
  rw [List.length_drop, List.length_take] at this
  simp at this; omega
theorem filter_range {p : Nat → Bool} (i : Nat) (h : ∀ j, i ≤ j → p j = false) : ∀ k, (List.range (i + k)).filter p = (List.range i).filter p
  | 0 => rfl
  | k + 1 => by
    rw [← Nat.add_assoc, List.range_succ, List.filter_append, filter_range i h k, List.filter_cons, h (i + k) (by omega)]
    simp
theorem filter_two {p : Nat → Bool} {a b : Nat} (hab : a < b) : ∀ n, (∀ i, i < n → (p i = true ↔ i = a ∨ i = b)) → (List.range n).filter p = (if a < n then [a] else []) ++ (if b < n then [b] else [])
  | 0, _ => by simp
  | n + 1, h => by
    rw [List.range_succ, List.filter_append, filter_two hab n fun i hi => h i (by omega), List.filter_cons]
    by_cases h1 : n = a
    · subst h1
      rw [(h n (by omega)).2 (.inl rfl)]
      simp [show ¬ b < n by omega, show ¬ b < n + 1 by omega]
    · by_cases h2 : n = b
      · subst h2
        rw [(h n (by omega)).2 (.inr rfl)]
        simp [hab, show a < n + 1 by omega]
      · have : p n = false := by
          rw [Bool.eq_false_iff]; intro e
          have := (h n (by omega)).1 e
          omega
        rw [this]
        have e1 : (a < n + 1) = (a < n) := propext ⟨fun _ => by omega, fun _ => by omega⟩
        have e2 : (b < n + 1) = (b < n) := propext ⟨fun _ => by omega, fun _ => by omega⟩
        simp only [e1, e2]
        simp
theorem isBar_mid {s : Str} {i : Nat} (h : isBar s i = true) : s[i + 1]? = some 124 := by
  have h2 := isBar_room h
  have e := eq_of_beq h
  have : ((s.take (i + 3)).drop i)[1]? = some 124 := by rw [e]; rfl
  rw [List.getElem?_drop, List.getElem?_take, if_pos (by omega)] at this
  exact this
theorem isBar_here (a r : Str) : isBar (a ++ [32, 124, 32] ++ r) a.length = true := by
  unfold isBar
  have e1 : (a ++ [32, 124, 32] ++ r).take (a.length + 3) = a ++ [32, 124, 32] := List.take_left' (by simp)
  rw [e1, List.drop_left' rfl]; rfl
theorem bar_pos {a : Str} (h : (124 : UInt8) ∉ a) (r : Str) {j : Nat} (hj : (a ++ [32, 124, 32] ++ r)[j]? = some 124) : j = a.length + 1 ∨ (a.length + 3 ≤ j ∧ r[j - (a.length + 3)]? = some 124) := by
  rw [List.append_assoc] at hj
  by_cases h1 : j < a.length
  · rw [List.getElem?_append_left h1] at hj
    exact absurd (List.mem_of_getElem? hj) h
  · rw [List.getElem?_append_right (by omega)] at hj
    by_cases h2 : j - a.length < 3
    · rw [List.getElem?_append_left h2] at hj
      have : j - a.length = 0 ∨ j - a.length = 1 ∨ j - a.length = 2 := by omega
      rcases this with e | e | e
      · rw [e] at hj; exact absurd hj (by decide)
      · left; omega
      · rw [e] at hj; exact absurd hj (by decide)
    · rw [List.getElem?_append_right (by simp only [List.length_cons, List.length_nil]; omega)] at hj
      refine .inr ⟨by omega, ?_⟩
      rw [show j - (a.length + 3) = j - a.length - ([32, 124, 32] : Str).length from rfl]
      exact hj
theorem bars_two {a b c : Str} (ha : (124 : UInt8) ∉ a) (hb : (124 : UInt8) ∉ b) (hc : (124 : UInt8) ∉ c) : barsS (a ++ [32, 124, 32] ++ (b ++ [32, 124, 32] ++ c)) = [a.length, a.length + 3 + b.length] := by
  unfold barsS
  rw [filter_two (a := a.length) (b := a.length + 3 + b.length) (by omega), if_pos (by simp <;> omega), if_pos (by simp <;> omega)]
  · rfl
  · intro i _
    constructor
    · intro h
      rcases bar_pos ha _ (isBar_mid h) with h1 | ⟨h1, h2⟩
      · left; omega
      · rcases bar_pos hb _ h2 with h3 | ⟨_, h4⟩
        · right; omega
        · exact absurd (List.mem_of_getElem? h4) hc
    · rintro (rfl | rfl)
      · exact isBar_here _ _
      · have := isBar_here (a ++ [32, 124, 32] ++ b) c
        have e : a ++ [32, 124, 32] ++ b ++ [32, 124, 32] ++ c = a ++ [32, 124, 32] ++ (b ++ [32, 124, 32] ++ c) := by simp
        rw [e] at this
        rw [show a.length + 3 + b.length = (a ++ [32, 124, 32] ++ b).length by simp; omega]
        exact this
/-! ### lassos -/
theorem parseL_cases (s : Str) : (∃ l, parseL s = (l, 0) ∧ putL l = (s, 0)) ∨ parseL s = (.zero, 2) := by
  unfold parseL
  split
  · split
    · split
      · rename_i h; exact .inl ⟨_, rfl, h.2.2⟩
      · exact .inr rfl
    · exact .inr rfl
  · exact .inr rfl
theorem parseL_bad {s : Str} (h : ∀ l, putL l ≠ (s, 0)) : parseL s = (.zero, 2) := by
  rcases parseL_cases s with ⟨l, _, h2⟩ | h2
  · exact absurd h2 (h l)
  · exact h2
theorem parseL_put {l : Ls} {s : Str} (h : putL l = (s, 0)) : parseL s = (l, 0) := by
  have := putL_back (l := l) (by rw [h])
  rw [h] at this; exact this
theorem shape18 {l : Ls} {s : Str} (h : putL l = (s, 0)) : ∃ x y, barsS s = [x, y] ∧ x + 3 ≤ y ∧ parsePs (s.take x) = (l.stem, 0) ∧ parsePs ((s.take y).drop (x + 3)) = (l.loop, 0) ∧ s.drop (y + 3) = Lib.itoa l.thread ∧ 0 ≤ l.thread ∧ l.thread ≤ 999999 := by
  obtain ⟨h1, h2, h3, h4, h5⟩ := putL_ok (l := l) (by rw [h])
  obtain ⟨a1, a2⟩ := putPs_back h1
  obtain ⟨b1, b2⟩ := putPs_back h2
  have c2 : (124 : UInt8) ∉ Lib.itoa l.thread := itoa_out h3 (.inr (by decide))
  rw [h] at h5
  injection h5 with h5 _
  rw [join_two, join_two, Lib.join_one] at h5
  generalize (putPs l.stem).1 = a at *
  generalize (putPs l.loop).1 = b at *
  generalize Lib.itoa l.thread = c at *
  have e : s = a ++ [32, 124, 32] ++ (b ++ [32, 124, 32] ++ c) := h5
  subst e
  refine ⟨_, _, bars_two a2 b2 c2, by omega, ?_, ?_, ?_, h3, h4⟩
  · rw [List.append_assoc, List.take_left' rfl]; exact a1
  · have e : a ++ [32, 124, 32] ++ (b ++ [32, 124, 32] ++ c) = (a ++ [32, 124, 32] ++ b) ++ ([32, 124, 32] ++ c) := by simp
    rw [e, List.take_left' (by simp; omega), List.drop_left' (by simp)]; exact b1
  · have e : a ++ [32, 124, 32] ++ (b ++ [32, 124, 32] ++ c) = (a ++ [32, 124, 32] ++ b ++ [32, 124, 32]) ++ c := by simp
    rw [e, List.drop_left' (by simp; omega)]
variable [Amb]
theorem bars_c (s : Str) (hs : s.length ≤ 1048576) : PFun Tryz.prog 89 [sv' s] [] (.d (.sl ((barsS s).map fun i : Nat => icell (i : Int)))) [] := by
  refine fn_sem pok 23 0 Tryz.func89 (by kernel_rfl) rfl rfl rfl rfl ?_
  refine SWp.go pok (by kernel_rfl) ?_
  refine SWp.tipSlot 3 1 rfl ?_
  refine SWp.loop (fun q : Nat × List (List D) => q.1 ≤ s.length ∧ q.2 = ((List.range q.1).filter (isBar s)).map fun i : Nat => icell (i : Int))
    (fun q => ([(0, sv' s), (3, .gsl q.2 0), (4, iv q.1)], [.tip 1 q.2.length]))
    (fun q => s.length - q.1) (0, []) ⟨Nat.zero_le _, rfl⟩ (Le.same ⟨rfl, rfl, rfl, trivial⟩) (fun q hq => ?_)
  obtain ⟨i, rows⟩ := q
  obtain ⟨hi, hr⟩ := hq
  dsimp only at hi hr ⊢
  subst hr
  have w1 : IntKind.i64.wrap ((i : Int) + 3) = ((i + 3 : Nat) : Int) := by rw [wrap_in (by unfold R64; omega)]; omega
  have hfl : ((List.range i).filter (isBar s)).length ≤ i := by
    have := List.length_filter_le (isBar s) (List.range i)
    rw [List.length_range] at this; exact this
  refine SWp.go pok (by kernel_rfl) ?_
  refine brP_split (fun h => ?_) (fun h => ?_)
  · have hlt : i + 3 ≤ s.length := by
      rw [w1] at h; have := of_decide_eq_true h; omega
    refine ⟨by rw [w1]; show cutOk s.length (some (i : Int)) (some ((i + 3 : Nat) : Int)); unfold cutOk; omega, ?_⟩
    have c1 : cutFrom (cutTo s (some (IntKind.i64.wrap ((i : Int) + 3)))) (some (i : Int)) = (s.take (i + 3)).drop i := by rw [w1]; rfl
    refine brP_split (fun h2 => ?_) (fun h2 => ?_)
    · rw [c1] at h2
      have hb : isBar s i = true := h2
      refine ⟨⟨rfl, fun r hr => ?_, fun r hr => ?_, ?_⟩, ?_⟩
      · obtain ⟨x, _, rfl⟩ := List.mem_map.1 hr; rfl
      · simp [List.replicate, List.set] at hr; subst hr; rfl
      · simp; omega
      refine ⟨(i + 1, ((List.range i).filter (isBar s)).map (fun i : Nat => icell (i : Int)) ++ [icell (i : Int)]), ⟨by show i + 1 ≤ _; omega, ?_⟩, by show s.length - (i + 1) < s.length - i; omega, .inr ⟨[0], ⟨rfl, rfl⟩, rfl, rfl, rfl, sint (wrap_nat i (by omega)), trivial⟩⟩
      show _ = ((List.range (i + 1)).filter (isBar s)).map fun i : Nat => icell (i : Int)
      rw [List.range_succ, List.filter_append, List.filter_cons, hb, List.map_append]
      rfl
    · rw [c1] at h2
      have hb : isBar s i = false := h2
      refine ⟨(i + 1, ((List.range i).filter (isBar s)).map fun i : Nat => icell (i : Int)), ⟨by show i + 1 ≤ _; omega, ?_⟩, by show s.length - (i + 1) < s.length - i; omega, Le.same ⟨rfl, rfl, sint (wrap_nat i (by omega)), trivial⟩⟩
      show _ = ((List.range (i + 1)).filter (isBar s)).map fun i : Nat => icell (i : Int)
      rw [List.range_succ, List.filter_append, List.filter_cons, hb]
      simp
  · have hge : s.length < i + 3 := by
      rw [w1] at h; have := of_decide_eq_false h; omega
    have e : barsS s = (List.range i).filter (isBar s) := by
      unfold barsS
      have := filter_range (p := isBar s) i (fun j hj => by
        rw [Bool.eq_false_iff]; intro h; have := isBar_room h; omega) (s.length - i)
      rw [show i + (s.length - i) = s.length by omega] at this
      exact this
    exact fin1 (by rw [e])
theorem parse18_c (s : Str) (hs : s.length ≤ 1048576) : PFun Tryz.prog 52 [sv' s] [] (.tup [(parseL s).1.v, iv (parseL s).2]) [] := by
  have out : ∀ {x : Ls × Int}, parseL s = x → V.tup [x.1.v, iv x.2] = V.tup [(parseL s).1.v, iv (parseL s).2] := fun h => by rw [h]
  have hb := bars_c s hs
  have room : ∀ i ∈ barsS s, i + 3 ≤ s.length := fun i hi => isBar_room (List.mem_filter.1 hi).2
  have two : (∀ x y, barsS s ≠ [x, y]) → parseL s = (.zero, 2) := fun h => parseL_bad fun l hl => by
    obtain ⟨x, y, h1, _⟩ := shape18 hl
    exact h x y h1
  have sh : ∀ {x y : Nat} {l : Ls}, barsS s = [x, y] → putL l = (s, 0) → x + 3 ≤ y ∧ parsePs (s.take x) = (l.stem, 0) ∧ parsePs ((s.take y).drop (x + 3)) = (l.loop, 0) ∧ s.drop (y + 3) = Lib.itoa l.thread ∧ 0 ≤ l.thread ∧ l.thread ≤ 999999 := fun hx hl => by
    obtain ⟨x', y', h1, h2⟩ := shape18 hl
    rw [hx] at h1
    injection h1 with e1 h1
    injection h1 with e2 _
    subst e1; subst e2
    exact h2
  refine fn_sem pok 99 0 Tryz.func52 (by kernel_rfl) rfl rfl rfl rfl ?_
  refine SWp.go pok (by kernel_rfl) ?_
  match hsp : barsS s with
  | [] => rw [hsp] at hb; refine PFun.call hb ?_; exact fin1 (out (two (by rw [hsp]; intros; simp)))
  | [_] => rw [hsp] at hb; refine PFun.call hb ?_; exact fin1 (out (two (by rw [hsp]; intros; simp)))
  | x :: y :: z :: r =>
    rw [hsp] at hb
    refine PFun.call hb ?_
    exact fin1 (out (two (by rw [hsp]; intros; simp)))
  | [x, y] =>
    rw [hsp] at hb room
    have r1 := room x (by simp)
    have r2 := room y (by simp)
    have wx : IntKind.i64.wrap ((x : Int) + 3) = ((x + 3 : Nat) : Int) := by rw [wrap_in (by unfold R64; omega)]; omega
    have wy : IntKind.i64.wrap ((y : Int) + 3) = ((y + 3 : Nat) : Int) := by rw [wrap_in (by unfold R64; omega)]; omega
    refine PFun.call hb ?_
    refine PIdx.map (x := y) (i := 1) rfl ?_
    refine PIdx.map (x := x) (i := 0) rfl ?_
    refine brP_split (fun h1 => ?_) (fun h1 => ?_)
    · rw [wx] at h1
      have h1 := of_decide_eq_true h1
      refine fin1 (out (x := (.zero, 2)) (parseL_bad fun l hl => ?_))
      have := (sh hsp hl).1
      omega
    rw [wx] at h1
    have h1 : x + 3 ≤ y := by have := of_decide_eq_false h1; omega
    refine PIdx.map (x := x) (i := 0) rfl ?_
    refine ⟨by show cutOk s.length none (some (x : Int)); unfold cutOk; omega, ?_⟩
    refine PFun.call (parse16_c (s.take x) (by rw [List.length_take]; omega)) ?_
    have n2 : PFun Tryz.prog 90 [sv' (cutFrom (cutTo s (some (y : Int))) (some (IntKind.i64.wrap ((x : Int) + 3))))] [] (.tup [.d (.sl ((parsePs ((s.take y).drop (x + 3))).1.map Pk.e)), iv (parsePs ((s.take y).drop (x + 3))).2]) [] := by
      rw [wx]; exact parse16_c ((s.take y).drop (x + 3)) (by rw [List.length_drop, List.length_take]; omega)
    have n3 : PFun Tryz.prog 51 [sv' (cutFrom (cutTo s none) (some (IntKind.i64.wrap ((y : Int) + 3))))] [] (.tup [iv (numW (s.drop (y + 3))).1, .d (.bool (numW (s.drop (y + 3))).2)]) [] := by
      rw [wy]; exact numW_c (s.drop (y + 3)) (by rw [List.length_drop]; omega)
    refine PIdx.map (x := x) (i := 0) rfl ?_
    refine PIdx.map (x := y) (i := 1) rfl ?_
    refine ⟨by rw [wx]; show cutOk s.length (some ((x + 3 : Nat) : Int)) (some (y : Int)); unfold cutOk; omega, ?_⟩
    refine ⟨_, _, n2, ?_⟩
    refine PIdx.map (x := y) (i := 1) rfl ?_
    refine ⟨by rw [wy]; show cutOk s.length (some ((y + 3 : Nat) : Int)) none; unfold cutOk; omega, ?_⟩
    have ok1 := parsePs_ok (s.take x)
    have ok2 := parsePs_ok ((s.take y).drop (x + 3))
    have sh' : ∀ l, putL l = (s, 0) → parsePs (s.take x) = (l.stem, 0) ∧ parsePs ((s.take y).drop (x + 3)) = (l.loop, 0) ∧ numW (s.drop (y + 3)) = (l.thread, true) ∧ 0 ≤ l.thread ∧ l.thread ≤ 999999 := fun l hl => by
      obtain ⟨_, g1, g2, g3, g4, g5⟩ := sh hsp hl
      refine ⟨g1, g2, ?_, g4, g5⟩
      rw [g3, numW_itoa g4 (by omega)]
    have nr := numW_r (s.drop (y + 3))
    generalize parsePs (s.take x) = A at n2 ok1 sh' ⊢
    generalize parsePs ((s.take y).drop (x + 3)) = B at n2 ok2 sh' ⊢
    generalize numW (s.drop (y + 3)) = C at n3 sh' nr ⊢
    obtain ⟨A, ea⟩ := A
    obtain ⟨B, eb⟩ := B
    obtain ⟨c, ec⟩ := C
    dsimp only at n3 ok1 ok2 nr ⊢
    have no : (ea = 0 → eb = 0 → ec = true → 0 ≤ c → c ≤ 999999 → putL ⟨A, B, c⟩ = (s, 0) → False) → parseL s = (.zero, 2) := fun h => parseL_bad fun l hl => by
      obtain ⟨g1, g2, g3, g4, g5⟩ := sh' l hl
      injection g1 with g1 e1
      injection g2 with g2 e2
      injection g3 with g3 e3
      subst g1; subst g2; subst g3
      exact h e1 e2 e3 g4 g5 hl
    cases ec with
    | false =>
      refine PFun.call n3 ?_
      refine brP_split (fun k1 => ?_) (fun k1 => ?_)
      · exact fin1 (out (x := (.zero, 2)) (no fun e _ _ _ _ _ => by rw [e] at k1; exact absurd k1 (by decide)))
      refine brP_split (fun k2 => ?_) (fun k2 => ?_)
      · exact fin1 (out (x := (.zero, 2)) (no fun _ e _ _ _ _ => by rw [e] at k2; exact absurd k2 (by decide)))
      exact fin1 (out (x := (.zero, 2)) (no fun _ _ e _ _ _ => by cases e))
    | true =>
      refine PFun.call n3 ?_
      refine brP_split (fun k1 => ?_) (fun k1 => ?_)
      · exact fin1 (out (x := (.zero, 2)) (no fun e _ _ _ _ _ => by rw [e] at k1; exact absurd k1 (by decide)))
      refine brP_split (fun k2 => ?_) (fun k2 => ?_)
      · exact fin1 (out (x := (.zero, 2)) (no fun _ e _ _ _ _ => by rw [e] at k2; exact absurd k2 (by decide)))
      refine brP_split (fun k3 => ?_) (fun k3 => ?_)
      · exact fin1 (out (x := (.zero, 2)) (no fun _ _ _ e _ _ => by have := of_decide_eq_true k3; omega))
      refine brP_split (fun k4 => ?_) (fun k4 => ?_)
      · exact fin1 (out (x := (.zero, 2)) (no fun _ _ _ _ e _ => by have := of_decide_eq_true k4; omega))
      refine PFun.call (put18_c ⟨A, B, c⟩ ⟨ok1.1, ok2.1, nr⟩ (by show A.length ≤ _; omega) (by show B.length ≤ _; omega)) ?_
      refine brP_split (fun k5 => ?_) (fun k5 => ?_)
      · exact fin1 (out (x := (.zero, 2)) (no fun _ _ _ _ _ e => by rw [e] at k5; cases k5))
      refine brP_split (fun k6 => ?_) (fun k6 => ?_)
      · exact fin1 (out (x := (.zero, 2)) (no fun _ _ _ _ _ e => by rw [e] at k6; simp at k6))
      · refine fin1 (out (x := (⟨A, B, c⟩, 0)) (parseL_put ?_))
        simp at k5 k6
        exact Prod.ext k6 k5
end Go.Proofs.YtblnfodnkacbbaaGreatDoor.Q

namespace Go.Proofs.YtblnfodnkacbbaaGreatDoor.Q
open Go.RowKit
def WInv (s : Str) (i a : Nat) (ws : List Str) : Prop :=
  ws.length ≤ i ∧ ((i ≤ s.length ∧ a ≤ i ∧ (32 : UInt8) ∉ (s.take i).drop a ∧ Lib.split s [32] = ws ++ Lib.split (s.drop a) [32]) ∨ (i = s.length + 1 ∧ Lib.split s [32] = ws))
variable [Amb]
theorem rwords_c (s : Str) (hs : s.length ≤ 1048576) : PFun Tryz.prog 29 [sv' s] [] (.d (.sl ((Lib.split s [32]).map scell))) [] := by
  refine fn_sem pok 32 0 Tryz.func29 (by kernel_rfl) rfl rfl rfl rfl ?_
  refine SWp.go pok (by kernel_rfl) ?_
  refine SWp.tipSlot 3 1 rfl ?_
  refine SWp.loop (fun q : Nat × Nat × List Str × List (List D) => WInv s q.1 q.2.1 q.2.2.1 ∧ q.2.2.2 = q.2.2.1.map scell)
    (fun q => ([(0, sv' s), (3, .gsl q.2.2.2 0), (4, iv q.2.1), (5, iv q.1)], [.tip 1 q.2.2.2.length]))
    (fun q => s.length + 1 - q.1) (0, 0, [], []) ⟨⟨by simp, .inl ⟨Nat.zero_le _, Nat.le_refl _, by simp, rfl⟩⟩, rfl⟩ (Le.same ⟨rfl, rfl, rfl, rfl, trivial⟩) (fun q hq => ?_)
  obtain ⟨i, a, ws, rows⟩ := q
  obtain ⟨⟨hlen, hq⟩, hrows⟩ := hq
  dsimp only at hlen hq hrows ⊢
  subst hrows
  refine SWp.go pok (by kernel_rfl) ?_
  refine brP_split (fun h => ?_) (fun h => ?_)
  · have hi : i ≤ s.length := by simpa using h
    obtain ⟨_, ha, hw, hp⟩ | ⟨h2, _⟩ := hq
    rotate_left
    · omega
    refine brP_split (fun h3 => ?_) (fun h3 => ?_)
    · have hk : i = s.length := by simp at h3; omega
      subst hk
      refine ⟨by show cutOk s.length (some (a : Int)) (some (s.length : Int)); unfold cutOk; omega, ?_⟩
      refine ⟨⟨rfl, fun r hr => ?_, fun r hr => ?_, ?_⟩, ?_⟩
      · obtain ⟨x, _, rfl⟩ := List.mem_map.1 hr; rfl
      · simp [List.replicate, List.set] at hr; subst hr; rfl
      · simp; omega
      refine ⟨(s.length + 1, s.length + 1, ws ++ [(s.take s.length).drop a], ws.map scell ++ [scell ((s.take s.length).drop a)]), ⟨⟨by simp; omega, .inr ⟨rfl, ?_⟩⟩, by show _ = (ws ++ _).map scell; rw [List.map_append]; rfl⟩, by show s.length + 1 - (s.length + 1) < s.length + 1 - s.length; omega, .inr ⟨[0], ⟨rfl, rfl⟩, rfl, rfl, rfl, sint (wrap_nat s.length (by omega)), sint (wrap_nat s.length (by omega)), trivial⟩⟩
      rw [hp, split_end s hw]
    · have hlt : i < s.length := by simp at h3; omega
      refine PIdx.at' (i := i) rfl (List.getElem?_eq_getElem hlt) ?_
      refine brP_split (fun h4 => ?_) (fun h4 => ?_)
      · have h4 : s[i] = 32 := by
          have : s[i].toNat = 32 := by simp at h4; omega
          exact UInt8.toNat_inj.1 this
        refine ⟨by show cutOk s.length (some (a : Int)) (some (i : Int)); unfold cutOk; omega, ?_⟩
        refine ⟨⟨rfl, fun r hr => ?_, fun r hr => ?_, ?_⟩, ?_⟩
        · obtain ⟨x, _, rfl⟩ := List.mem_map.1 hr; rfl
        · simp [List.replicate, List.set] at hr; subst hr; rfl
        · simp; omega
        refine ⟨(i + 1, i + 1, ws ++ [(s.take i).drop a], ws.map scell ++ [scell ((s.take i).drop a)]), ⟨⟨by simp; omega, .inl ⟨hlt, Nat.le_refl _, ?_, ?_⟩⟩, by show _ = (ws ++ _).map scell; rw [List.map_append]; rfl⟩, by show s.length + 1 - (i + 1) < s.length + 1 - i; omega, .inr ⟨[0], ⟨rfl, rfl⟩, rfl, rfl, rfl, sint (wrap_nat i (by omega)), sint (wrap_nat i (by omega)), trivial⟩⟩
        · show (32 : UInt8) ∉ (s.take (i + 1)).drop (i + 1)
          rw [List.drop_of_length_le (by rw [List.length_take]; omega)]; simp
        · rw [hp, split_at s ha hlt h4 hw]; simp
      · have h4 : ¬ s[i] = 32 := by
          intro e; rw [e] at h4; exact absurd h4 (by decide)
        refine ⟨(i + 1, a, ws, ws.map scell), ⟨⟨by show ws.length ≤ i + 1; omega, .inl ⟨hlt, by show a ≤ i + 1; omega, ?_, hp⟩⟩, rfl⟩, by show s.length + 1 - (i + 1) < s.length + 1 - i; omega, Le.same ⟨rfl, rfl, rfl, sint (wrap_nat i (by omega)), trivial⟩⟩
        rw [mid_snoc s ha hlt, List.mem_append, List.mem_singleton]
        rintro (h | h)
        · exact hw h
        · exact h4 h.symm
  · obtain ⟨h1, _⟩ | ⟨_, hp⟩ := hq
    · simp at h; omega
    exact fin1 (by rw [hp])
theorem rnum_c (s : Str) (hs : s.length ≤ 1048576) : PFun Tryz.prog 30 [sv' s] [] (iv (num30 s)) [] := by
  have hc := numW_c s hs
  have nr := numW_r s
  have e : num30 s = if (numW s).2 = false ∨ (numW s).1 < 0 ∨ most < (numW s).1 then -1 else (numW s).1 := rfl
  rw [e]
  generalize numW s = C at hc nr ⊢
  obtain ⟨n, b⟩ := C
  dsimp only at hc nr ⊢
  refine fn_sem pok 21 0 Tryz.func30 (by kernel_rfl) rfl rfl rfl rfl ?_
  refine SWp.go pok (by kernel_rfl) ?_
  cases b with
  | false =>
    refine PFun.call hc ?_
    exact fin1 rfl
  | true =>
    refine PFun.call hc ?_
    refine brP_split (fun k1 => ?_) (fun k1 => ?_)
    · have := of_decide_eq_true k1
      exact fin1 (dint (by rw [if_pos (.inr (.inl this))]))
    refine brP_split (fun k2 => ?_) (fun k2 => ?_)
    · have := of_decide_eq_true k2
      exact fin1 (dint (by rw [if_pos (.inr (.inr (by unfold most; omega)))]))
    · have := of_decide_eq_false k1
      have := of_decide_eq_false k2
      refine fin1 (dint ?_)
      rw [if_neg]
      rintro (h | h | h)
      · cases h
      · omega
      · unfold most at h; omega
def plainR (v : Vd) : Bool := !(decide (v.kind ≠ 3) && decide ((v.counts.length : Int) + v.way.stem.length + v.way.loop.length + v.what + v.way.thread ≠ 0)) && (decide (v.kind = 1) || (decide (v.err = 0) && decide (v.at' = 0)))
theorem plainR_eq {v : Vd} (hn : areNumsS v = true) (h1 : 1 ≤ v.kind) (h4 : v.kind ≤ 4) : isPlainS v = (plainR v && !(decide (v.kind = 1) && decide (v.seen ≠ 0))) := by
  obtain ⟨n1, n2, n3, n4, n5, _⟩ := nums_in hn
  have e : decide ((v.counts.length : Int) + v.way.stem.length + v.way.loop.length + v.what + v.way.thread ≠ 0) = !plainWay v := by
    unfold plainWay
    rw [Bool.eq_iff_iff]
    simp only [decide_eq_true_eq, Bool.not_eq_true', Bool.and_eq_false_iff, decide_eq_false_iff_not, ne_eq]
    omega
  unfold plainR
  rw [e]
  unfold isPlainS plainErr
  have hk : v.kind = 1 ∨ v.kind = 2 ∨ v.kind = 3 ∨ v.kind = 4 := by omega
  rcases hk with hk | hk | hk | hk
  · simp [hk]
  · simp [hk]
  · simp [hk]
  · simp [hk]
theorem rright_c (v : Vd) (hv : v.ok) : PFun Tryz.prog 22 [v.v] [] (.d (.bool (areNumsS v))) [] := by
  have h1 := hv.2.2.2.2.2.2.2.1
  have e : areNumsS v = ([v.seen, v.at', v.err, v.what, v.way.thread] ++ v.counts).all fun n => decide (0 ≤ n) && decide (n ≤ most) := rfl
  have hl : ([v.seen, v.at', v.err, v.what, v.way.thread] ++ v.counts).length = v.counts.length + 5 := by simp
  refine fn_sem pok 38 0 Tryz.func22 (by kernel_rfl) rfl rfl rfl rfl ?_
  refine SWp.go pok (by kernel_rfl) ?_
  refine ⟨⟨fun r hr => ?_, fun r hr => ?_, ?_⟩, ?_⟩
  · simp [List.replicate, List.set] at hr
    rcases hr with rfl | rfl | rfl | rfl | rfl <;> rfl
  · obtain ⟨n, _, rfl⟩ := List.mem_map.1 hr; rfl
  · simp; omega
  rw [e]
  refine SWp.loop (fun k : Nat => k ≤ ([v.seen, v.at', v.err, v.what, v.way.thread] ++ v.counts).length ∧ ((([v.seen, v.at', v.err, v.what, v.way.thread] ++ v.counts).take k).all fun n => decide (0 ≤ n) && decide (n ≤ most)) = true)
    (fun k => ([(1, .ptr 0 0), (3, .gsl (([v.seen, v.at', v.err, v.what, v.way.thread] ++ v.counts).map icell) 1), (4, iv k)], [.box v.cells, .tip 1 (([v.seen, v.at', v.err, v.what, v.way.thread] ++ v.counts).map icell).length]))
    (fun k => ([v.seen, v.at', v.err, v.what, v.way.thread] ++ v.counts).length - k) 0 ⟨Nat.zero_le _, rfl⟩ (Le.same ⟨rfl, rfl, rfl, trivial⟩) (fun k hk => ?_)
  obtain ⟨hk, ha⟩ := hk
  dsimp only
  refine SWp.go pok (by kernel_rfl) ?_
  refine brP_split (fun h => ?_) (fun h => ?_)
  · have hlt : k < ([v.seen, v.at', v.err, v.what, v.way.thread] ++ v.counts).length := by have := of_decide_eq_true h; rw [List.length_map] at this; omega
    have bad : ¬ (0 ≤ ([v.seen, v.at', v.err, v.what, v.way.thread] ++ v.counts)[k] ∧ ([v.seen, v.at', v.err, v.what, v.way.thread] ++ v.counts)[k] ≤ most) → (([v.seen, v.at', v.err, v.what, v.way.thread] ++ v.counts).all fun n => decide (0 ≤ n) && decide (n ≤ most)) = false := fun hn => by
      rw [Bool.eq_false_iff]
      intro hh
      have := List.all_eq_true.1 hh _ (List.getElem_mem hlt)
      simp only [Bool.and_eq_true, decide_eq_true_eq] at this
      exact hn this
    refine PIdx.map (get_at hlt) ?_
    refine brP_split (fun h2 => ?_) (fun h2 => ?_)
    · have := of_decide_eq_true h2
      exact fin1 (dbool (bad (by omega)).symm)
    refine PIdx.map (get_at hlt) ?_
    refine brP_split (fun h3 => ?_) (fun h3 => ?_)
    · have := of_decide_eq_true h3
      exact fin1 (dbool (bad (by unfold most; omega)).symm)
    have := of_decide_eq_false h2
    have := of_decide_eq_false h3
    refine ⟨k + 1, ⟨hlt, ?_⟩, by omega, Le.same ⟨rfl, rfl, sint (wrap_nat k (by omega)), trivial⟩⟩
    rw [take_snoc ([v.seen, v.at', v.err, v.what, v.way.thread] ++ v.counts) k hlt, List.all_append, ha]
    simp only [List.all_cons, List.all_nil, Bool.and_true, Bool.true_and, Bool.and_eq_true, decide_eq_true_eq]
    unfold most; omega
  · have hk' : k = ([v.seen, v.at', v.err, v.what, v.way.thread] ++ v.counts).length := by have := of_decide_eq_false h; rw [List.length_map] at this; omega
    subst hk'
    rw [List.take_length] at ha
    exact fin1 (dbool ha.symm)
theorem rplain_c (v : Vd) (hv : v.ok) (hn : areNumsS v = true) : PFun Tryz.prog 23 [v.v] [] (.d (.bool (plainR v))) [] := by
  have h1 := hv.2.2.2.2.2.2.2.1
  have h2 := hv.2.2.2.2.2.2.2.2.1
  have h3 := hv.2.2.2.2.2.2.2.2.2
  obtain ⟨_, _, _, n4, n5, _⟩ := nums_in hn
  unfold most at n4 n5
  have w : IntKind.i64.wrap (IntKind.i64.wrap (IntKind.i64.wrap (IntKind.i64.wrap (((v.counts.map icell).length : Int) + ((v.way.stem.map Pk.e).length : Int)) + ((v.way.loop.map Pk.e).length : Int)) + v.what) + v.way.thread) = (v.counts.length : Int) + v.way.stem.length + v.way.loop.length + v.what + v.way.thread := by
    rw [List.length_map, List.length_map, List.length_map]
    rw [wrap_in (x := (v.counts.length : Int) + (v.way.stem.length : Int)) (by unfold R64; omega), wrap_in (x := (v.counts.length : Int) + (v.way.stem.length : Int) + (v.way.loop.length : Int)) (by unfold R64; omega), wrap_in (x := (v.counts.length : Int) + (v.way.stem.length : Int) + (v.way.loop.length : Int) + v.what) (by unfold R64; omega), wrap_in (by unfold R64; omega)]
  refine fn_sem pok 42 0 Tryz.func23 (by kernel_rfl) rfl rfl rfl rfl ?_
  refine SWp.go pok (by kernel_rfl) ?_
  repeat' (refine brP_split (fun h => ?_) (fun h => ?_))
  all_goals
    refine fin1 (dbool ?_)
    simp only [w, beq_iff_eq, beq_eq_false_iff_ne, bne_iff_ne, bne_eq_false_iff_eq, ne_eq, decide_eq_true_eq, decide_eq_false_iff_not] at *
    unfold plainR
    simp [*]
    try omega
end Go.Proofs.YtblnfodnkacbbaaGreatDoor.Q

namespace Go.Proofs.YtblnfodnkacbbaaGreatDoor.Q
open Go.RowKit
theorem rej_text (v : Vd) (way : Str) : Lib.join (rejWords v way) [32] = Lib.join ([wRej, Lib.itoa v.seen] ++ v.counts.map Lib.itoa) [32] ++ [32] ++ [58, 32] ++ Lib.itoa v.what ++ [32, 124, 32] ++ way := by
  unfold rejWords
  rw [join_app [32] ([wRej, Lib.itoa v.seen] ++ v.counts.map Lib.itoa) _ (by simp) (by simp), join_two, join_two, join_two, Lib.join_one]
  simp
variable [Amb]
theorem rput_c (v : Vd) (hv : v.ok) : PFun Tryz.prog 8 [v.v] [] (.tup [sv' (putV v).1, iv (putV v).2]) [] := by
  have out : ∀ {x : Str × Int}, putV v = x → V.tup [sv' x.1, iv x.2] = V.tup [sv' (putV v).1, iv (putV v).2] := fun h => by rw [h]
  have hw := hv.2.2.2.2.2.2.1
  have hc := hv.2.2.2.2.2.2.2.1
  have sh : ∀ {n : Int}, R64 n → (Lib.itoa n).length ≤ 20 := fun h => itoa_short h
  have s1 := sh hv.2.1
  have s2 := sh hv.2.2.1
  have s3 := sh hv.2.2.2.1
  have s4 := sh hv.2.2.2.2.2.1
  have bad : ((!isPlainS v || !areNumsS v) = true) → putV v = ([], 2) := fun h => by unfold putV; rw [if_pos h]
  have kbad : (v.kind < 1 ∨ 4 < v.kind) → isPlainS v = false := fun h => by
    unfold isPlainS
    rw [if_neg (by omega), if_neg (by omega), if_neg (by omega)]
  refine fn_sem pok 100 0 Tryz.func8 (by kernel_rfl) rfl rfl rfl rfl ?_
  refine SWp.go pok (by kernel_rfl) ?_
  refine brP_split (fun h1 => ?_) (fun h1 => ?_)
  · exact fin1 (out (x := ([], 2)) (bad (by rw [kbad (.inl (of_decide_eq_true h1))]; rfl)))
  refine brP_split (fun h2 => ?_) (fun h2 => ?_)
  · exact fin1 (out (x := ([], 2)) (bad (by rw [kbad (.inr (of_decide_eq_true h2))]; rfl)))
  have h1 := of_decide_eq_false h1
  have h2 := of_decide_eq_false h2
  have hr := rright_c v hv
  cases hn : areNumsS v with
  | false =>
    rw [hn] at hr
    refine PFun.call hr ?_
    exact fin1 (out (x := ([], 2)) (bad (by rw [hn]; cases isPlainS v <;> rfl)))
  | true =>
    rw [hn] at hr
    have hp := rplain_c v hv hn
    have pe := plainR_eq hn (by omega) (by omega)
    refine PFun.call hr ?_
    cases hpl : plainR v with
    | false =>
      rw [hpl] at hp pe
      refine PFun.call hp ?_
      exact fin1 (out (x := ([], 2)) (bad (by rw [pe]; rfl)))
    | true =>
      rw [hpl] at hp pe
      refine PFun.call hp ?_
      refine brP_split (fun h3 => ?_) (fun h3 => ?_)
      · have k1 : v.kind = 1 := by simpa using h3
        refine brP_split (fun h4 => ?_) (fun h4 => ?_)
        · have k2 : v.seen ≠ 0 := by simpa using h4
          exact fin1 (out (x := ([], 2)) (bad (by rw [pe]; simp [k1, k2])))
        have k2 : v.seen = 0 := by simpa using h4
        have e0 : ¬ ((!isPlainS v || !areNumsS v) = true) := by rw [pe, hn]; simp [k2]
        refine brP_true h3 ?_
        refine ⟨_, _, digits30_c hv.2.1, ?_⟩
        refine ⟨by show 6 + _ ≤ 4611686018427387904; omega, ?_⟩
        refine ⟨by simp; omega, ?_⟩
        refine ⟨_, _, digits30_c hv.2.2.1, ?_⟩
        refine ⟨by simp; omega, ?_⟩
        refine fin1 (out (x := ([101, 114, 114, 111, 114, 32] ++ Lib.itoa v.err ++ [32] ++ Lib.itoa v.at', 0)) ?_)
        unfold putV
        rw [if_neg e0, if_pos k1, join_two, join_two, Lib.join_one]
        simp [wErr]
      have k1 : ¬ v.kind = 1 := by simpa using h3
      have e0 : ¬ ((!isPlainS v || !areNumsS v) = true) := by rw [pe, hn]; simp [k1]
      refine brP_false h3 ?_
      refine brP_split (fun h4 => ?_) (fun h4 => ?_)
      · have k2 : v.kind = 2 := by simpa using h4
        refine PFun.call (digits30_c hv.2.2.2.1) ?_
        refine ⟨by show 7 + _ ≤ 4611686018427387904; omega, ?_⟩
        refine fin1 (out (x := ([97, 99, 99, 101, 112, 116, 32] ++ Lib.itoa v.seen, 0)) ?_)
        unfold putV
        rw [if_neg e0, if_neg k1, if_pos k2, join_two, Lib.join_one]
        simp [wAcc]
      have k2 : ¬ v.kind = 2 := by simpa using h4
      refine brP_split (fun h5 => ?_) (fun h5 => ?_)
      · have k3 : v.kind = 4 := by simpa using h5
        refine PFun.call (digits30_c hv.2.2.2.1) ?_
        refine ⟨by show 8 + _ ≤ 4611686018427387904; omega, ?_⟩
        refine fin1 (out (x := ([117, 110, 107, 110, 111, 119, 110, 32] ++ Lib.itoa v.seen, 0)) ?_)
        unfold putV
        rw [if_neg e0, if_neg k1, if_neg k2, if_pos k3, join_two, Lib.join_one]
        simp [wUnk]
      have k3 : ¬ v.kind = 4 := by simpa using h5
      have pw := putL_short hw
      refine PFun.call (put18_c v.way hw hv.2.2.2.2.2.2.2.2.1 hv.2.2.2.2.2.2.2.2.2) ?_
      refine brP_split (fun h6 => ?_) (fun h6 => ?_)
      · have h6 : ¬ (putL v.way).2 = 0 := by simpa using h6
        refine fin1 (out (x := ([], (putL v.way).2)) ?_)
        unfold putV
        rw [if_neg e0, if_neg k1, if_neg k2, if_neg k3, if_pos h6]
      have h6 : (putL v.way).2 = 0 := by simpa using h6
      refine PFun.call (digits30_c hv.2.2.2.1) ?_
      refine ⟨by show 7 + _ ≤ 4611686018427387904; omega, ?_⟩
      refine ⟨by simp; omega, ?_⟩
      refine SWp.loop (fun k : Nat => k ≤ v.counts.length)
        (fun k => ([(1, .ptr 0 0), (4, sv' (putL v.way).1), (6, sv' (Lib.join ([wRej, Lib.itoa v.seen] ++ (v.counts.take k).map Lib.itoa) [32] ++ [32])), (7, iv k)], [.box v.cells]))
        (fun k => v.counts.length - k) 0 (Nat.zero_le _) (Le.same ⟨rfl, rfl, sv (by rw [List.take_zero, List.map_nil, List.append_nil, join_two, Lib.join_one]; simp [wRej]), rfl, trivial⟩) (fun k hk => ?_)
      dsimp only at hk ⊢
      have hj := join_short [32] 20 ([wRej, Lib.itoa v.seen] ++ (v.counts.take k).map Lib.itoa) (fun w hw => by
        simp only [List.mem_append, List.mem_cons, List.not_mem_nil, or_false, List.mem_map] at hw
        rcases hw with (rfl | rfl) | ⟨n, hn, rfl⟩
        · decide
        · omega
        · exact itoa_short (hv.2.2.2.2.1 n (List.mem_of_mem_take hn)))
      have hjl : ([wRej, Lib.itoa v.seen] ++ (v.counts.take k).map Lib.itoa).length ≤ k + 2 := by
        rw [List.length_append, List.length_map, List.length_take]; simp only [List.length_cons, List.length_nil]; omega
      have hj : (Lib.join ([wRej, Lib.itoa v.seen] ++ (v.counts.take k).map Lib.itoa) [32]).length ≤ 1000002 * 21 := by
        refine Nat.le_trans hj (Nat.mul_le_mul (by omega) (by decide))
      refine SWp.go pok (by kernel_rfl) ?_
      refine brP_split (fun h => ?_) (fun h => ?_)
      · have hlt : k < v.counts.length := by have := of_decide_eq_true h; rw [List.length_map] at this; omega
        have hs5 := itoa_short (hv.2.2.2.2.1 _ (List.getElem_mem hlt))
        have hnx : Lib.join ([wRej, Lib.itoa v.seen] ++ (v.counts.take (k + 1)).map Lib.itoa) [32] = Lib.join ([wRej, Lib.itoa v.seen] ++ (v.counts.take k).map Lib.itoa) [32] ++ [32] ++ Lib.itoa v.counts[k] := by
          rw [take_snoc v.counts k hlt, List.map_append, List.map_cons, List.map_nil, ← List.append_assoc, join_snoc, if_neg (by simp)]
        generalize Lib.join ([wRej, Lib.itoa v.seen] ++ (v.counts.take k).map Lib.itoa) [32] = J at hj hnx ⊢
        refine PIdx.map (get_at hlt) ?_
        refine PFun.call (digits30_c (hv.2.2.2.2.1 _ (List.getElem_mem hlt))) ?_
        refine ⟨by simp; omega, ?_⟩
        refine ⟨by simp; omega, ?_⟩
        exact ⟨k + 1, hlt, by omega, Le.same ⟨rfl, rfl, sv (by rw [hnx]), sint (wrap_nat k (by omega)), trivial⟩⟩
      · have hk' : k = v.counts.length := by have := of_decide_eq_false h; rw [List.length_map] at this; omega
        subst hk'
        rw [List.take_length] at hj ⊢
        have hrt := rej_text v (putL v.way).1
        generalize Lib.join ([wRej, Lib.itoa v.seen] ++ v.counts.map Lib.itoa) [32] = J at hj hrt ⊢
        refine ⟨by simp; omega, ?_⟩
        refine PFun.call (digits30_c hv.2.2.2.2.2.1) ?_
        refine ⟨by simp; omega, ?_⟩
        refine ⟨by simp; omega, ?_⟩
        refine ⟨by simp; omega, ?_⟩
        refine fin1 (out (x := (J ++ [32] ++ [58, 32] ++ Lib.itoa v.what ++ [32, 124, 32] ++ (putL v.way).1, 0)) ?_)
        unfold putV
        rw [if_neg e0, if_neg k1, if_neg k2, if_neg k3, if_neg (by rw [h6]; decide), hrt]
end Go.Proofs.YtblnfodnkacbbaaGreatDoor.Q

namespace Go.Proofs.YtblnfodnkacbbaaGreatDoor.Q
open Go.RowKit
def isCol (s : Str) (i : Nat) : Bool := decide (s[i]? = some 58) && decide (s[i + 1]? = some 32)
/-- The first place of p, or -1. -/
def Fst (p : Nat → Bool) (z : Int) : Prop := (z = -1 ∧ ∀ j, p j = false) ∨ ∃ j : Nat, z = j ∧ p j = true ∧ ∀ i, i < j → p i = false
theorem Fst.eq {p : Nat → Bool} {z : Int} (h : Fst p z) {j : Nat} (h1 : p j = true) (h2 : ∀ i, i < j → p i = false) : z = j := by
  rcases h with ⟨_, h⟩ | ⟨k, hz, hk, hlt⟩
  · rw [h j] at h1; cases h1
  · rcases Nat.lt_trichotomy k j with h | h | h
    · rw [h2 k h] at hk; cases hk
    · rw [hz, h]
    · rw [hlt j h] at h1; cases h1
theorem col_first {w : Str} (h : (58 : UInt8) ∉ w) (r : Str) {z : Int} (hz : Fst (isCol (w ++ [32] ++ [58, 32] ++ r)) z) : z = ((w.length + 1 : Nat) : Int) := by
  have e : w ++ [32] ++ [58, 32] ++ r = (w ++ [32]) ++ ([58, 32] ++ r) := by simp
  rw [e] at hz
  refine hz.eq ?_ fun i hi => ?_
  · have g : ∀ k, ((w ++ [32]) ++ ([58, 32] ++ r))[(w ++ [32]).length + k]? = ([58, 32] ++ r)[k]? := fun k => by
      rw [List.getElem?_append_right (by omega), Nat.add_sub_cancel_left]
    have g0 := g 0
    have g1 := g 1
    have e1 : (w ++ [32]).length = w.length + 1 := by simp
    rw [e1] at g0 g1
    unfold isCol
    rw [show w.length + 1 = w.length + 1 + 0 from rfl, g0, show w.length + 1 + 0 + 1 = w.length + 1 + 1 from rfl, g1]
    rfl
  · unfold isCol
    rw [Bool.and_eq_false_iff]
    left
    rw [List.getElem?_append_left (by simp; omega), decide_eq_false_iff_not]
    intro hm
    have := List.mem_of_getElem? hm
    rw [List.mem_append, List.mem_singleton] at this
    rcases this with h1 | h1
    · exact h h1
    · exact absurd h1 (by decide)
theorem bar_first {w : Str} (h : (124 : UInt8) ∉ w) (r : Str) {z : Int} (hz : Fst (isBar (w ++ [32, 124, 32] ++ r)) z) : z = ((w.length : Nat) : Int) := by
  refine hz.eq (isBar_here w r) fun i hi => ?_
  rw [Bool.eq_false_iff]
  intro hb
  have hm := isBar_mid hb
  rcases bar_pos h r hm with h1 | ⟨h1, _⟩ <;> omega
theorem rej_shape {v : Vd} {s : Str} (h : putV v = (s, 0)) (hk : v.kind = 3) : ∃ W way, s = W ++ [32] ++ [58, 32] ++ (Lib.itoa v.what ++ [32, 124, 32] ++ way) ∧ (58 : UInt8) ∉ W ∧ W ≠ [] ∧ Lib.split W [32] = [wRej, Lib.itoa v.seen] ++ v.counts.map Lib.itoa ∧ parseL way = (v.way, 0) ∧ (0 ≤ v.seen ∧ v.seen ≤ most) ∧ (0 ≤ v.what ∧ v.what ≤ most) ∧ (∀ n ∈ v.counts, 0 ≤ n ∧ n ≤ most) ∧ v = ⟨3, 0, 0, v.seen, v.counts, v.what, v.way⟩ := by
  unfold putV at h
  split at h
  · cases h
  rename_i h0
  simp only [Bool.or_eq_true, Bool.not_eq_true', not_or, Bool.not_eq_false] at h0
  obtain ⟨hp, hn⟩ := h0
  obtain ⟨n1, n2, n3, n4, n5, n6⟩ := nums_in hn
  rw [if_neg (by omega), if_neg (by omega), if_neg (by omega)] at h
  split at h
  · rename_i h1; injection h with _ h; exact absurd h h1
  rename_i h1
  have h1 : (putL v.way).2 = 0 := Decidable.not_not.1 h1
  injection h with h _
  unfold isPlainS at hp
  rw [if_neg (by omega), if_neg (by omega), if_pos hk] at hp
  unfold plainErr at hp
  simp only [Bool.and_eq_true, decide_eq_true_eq] at hp
  have sp : ∀ {n : Int}, 0 ≤ n → (32 : UInt8) ∉ Lib.itoa n := fun h => itoa_out h (.inl (by decide))
  have hl1 : ∀ w ∈ [wRej, Lib.itoa v.seen] ++ v.counts.map Lib.itoa, (32 : UInt8) ∉ w ∧ (58 : UInt8) ∉ w := by
    intro w hw
    simp only [List.mem_append, List.mem_cons, List.not_mem_nil, or_false, List.mem_map] at hw
    rcases hw with (rfl | rfl) | ⟨n, hn, rfl⟩
    · exact ⟨by decide, by decide⟩
    · exact ⟨sp n1.1, itoa_out n1.1 (.inr (by decide))⟩
    · exact ⟨sp (n6 n hn).1, itoa_out (n6 n hn).1 (.inr (by decide))⟩
  have hne : [wRej, Lib.itoa v.seen] ++ v.counts.map Lib.itoa ≠ [] := by simp
  refine ⟨Lib.join ([wRej, Lib.itoa v.seen] ++ v.counts.map Lib.itoa) [32], (putL v.way).1, ?_, join_out (by decide) fun w hw => (hl1 w hw).2, ?_, sp_words hne fun w hw => (hl1 w hw).1, putL_back h1, n1, n4, n6, ?_⟩
  · rw [← h, rej_text]; simp
  · intro e
    have e2 : Lib.join (wRej :: Lib.itoa v.seen :: v.counts.map Lib.itoa) [32] = [] := e
    rw [join_two] at e2
    simp [wRej] at e2
  · obtain ⟨k, e, a, s, c, w, y⟩ := v
    dsimp only at *
    rw [hk, hp.1, hp.2]
/-- What a reject that is told by a text must be. -/
def RejIs (s : Str) (v : Vd) (b : Bool) : Prop := v.ok ∧ ∀ w, putV w = (s, 0) → w.kind = 3 → v = w ∧ b = true
def seenK (ws : List Str) (k : Nat) : Int := if k < 2 then 0 else num30 (ws.getD 1 [])
def countsK (ws : List Str) (k : Nat) : List Int := ((ws.take k).drop 2).map num30
theorem countsK_low (ws : List Str) {k : Nat} (h : k ≤ 2) : countsK ws k = [] := by
  unfold countsK
  rw [List.drop_of_length_le (by rw [List.length_take]; omega)]; rfl
theorem countsK_snoc (ws : List Str) {k : Nat} (h : 2 ≤ k) (hk : k < ws.length) : countsK ws (k + 1) = countsK ws k ++ [num30 ws[k]] := by
  unfold countsK
  rw [take_snoc ws k hk, List.drop_append_of_le_length (by rw [List.length_take]; omega), List.map_append]; rfl
theorem countsK_r (ws : List Str) (k : Nat) : ∀ n ∈ countsK ws k, R64 n := by
  intro n hn
  obtain ⟨w, _, rfl⟩ := List.mem_map.1 hn
  exact num30_r w
theorem countsK_len (ws : List Str) (k : Nat) : (countsK ws k).length ≤ k := by
  unfold countsK
  rw [List.length_map, List.length_drop, List.length_take]; omega
theorem seenK_r (ws : List Str) (k : Nat) : R64 (seenK ws k) := by
  unfold seenK
  split
  · unfold R64; omega
  · exact num30_r _
/-- What is known of a reject whose text is s. -/
structure RejC (s : Str) (j : Nat) (w : Vd) (way : Str) : Prop where
  words : Lib.split (s.take (j - 1)) [32] = [wRej, Lib.itoa w.seen] ++ w.counts.map Lib.itoa
  rest : s.drop (j + 2) = Lib.itoa w.what ++ [32, 124, 32] ++ way
  lasso : parseL way = (w.way, 0)
  n1 : 0 ≤ w.seen ∧ w.seen ≤ most
  n2 : 0 ≤ w.what ∧ w.what ≤ most
  n3 : ∀ n ∈ w.counts, 0 ≤ n ∧ n ≤ most
  is : w = ⟨3, 0, 0, w.seen, w.counts, w.what, w.way⟩
theorem rej_at {s : Str} {z : Int} (hF : Fst (isCol s) z) {w : Vd} (h : putV w = (s, 0)) (hk : w.kind = 3) : ∃ j way, z = ((j : Nat) : Int) ∧ 1 ≤ j ∧ RejC s j w way := by
  obtain ⟨W, way, e, h1, h2, h3, h4, h5, h6, h7, h8⟩ := rej_shape h hk
  rw [e] at hF
  refine ⟨W.length + 1, way, col_first h1 _ hF, by omega, ?_, ?_, h4, h5, h6, h7, h8⟩
  · rw [e, Nat.add_sub_cancel, List.append_assoc, List.append_assoc, List.take_left' rfl, h3]
  · rw [e, List.drop_left' (by simp)]
theorem counts_all {l : List Int} (h : ∀ n ∈ l, 0 ≤ n ∧ n ≤ most) : (l.map Lib.itoa).map num30 = l := by
  rw [List.map_map]
  conv => rhs; rw [← List.map_id l]
  exact List.map_congr_left fun n hn => num30_itoa (h n hn).1 (h n hn).2
variable [Amb]
theorem rreject_c (s : Str) (hs : s.length ≤ 900000) : PCalls Tryz.prog 31 [sv' s] [] fun r h' => h' = [] ∧ ∃ v b, r = .tup [v.v, .d (.bool b)] ∧ RejIs s v b := by
  have z : ∀ n : Int, 0 ≤ n → n ≤ 4 → R64 n := fun n h1 h2 => by unfold R64; omega
  have hz : Ls.zero.ok := ⟨(fun p h => absurd h (by simp [Ls.zero])), (fun p h => absurd h (by simp [Ls.zero])), z 0 (by decide) (by decide)⟩
  have n0 : (0 : Nat) ≤ 1073741824 := by decide
  refine fn_sem pok 125 0 Tryz.func31 (by kernel_rfl) rfl rfl rfl rfl ?_
  refine SWp.go pok (by kernel_rfl) ?_
  refine SWp.loop (fun q : Nat × Int => q.1 ≤ s.length ∧ ((q.2 = -1 ∧ ∀ j, j < q.1 → isCol s j = false) ∨ ∃ j : Nat, q.2 = j ∧ j + 2 ≤ s.length ∧ isCol s j = true ∧ ∀ i, i < j → isCol s i = false))
    (fun q => ([(0, sv' s), (2, .ptr 0 0), (3, .d (.bool false)), (4, .ptr 1 0), (5, iv q.2), (6, iv q.1)], [.box [iv 0, iv 0, iv 0, iv 0, .fsl [], iv 0, .fsl [], .fsl [], iv 0], .box [iv 3, iv 0, iv 0, iv 0, .fsl [], iv 0, .fsl [], .fsl [], iv 0]]))
    (fun q => s.length - q.1) (0, -1) ⟨Nat.zero_le _, .inl ⟨rfl, fun j hj => absurd hj (Nat.not_lt_zero _)⟩⟩ (Le.same ⟨rfl, rfl, rfl, rfl, rfl, rfl, trivial⟩) (fun q hq => ?_)
  obtain ⟨i, at'⟩ := q
  obtain ⟨hi, hq⟩ := hq
  dsimp only at hi hq ⊢
  have w1 : IntKind.i64.wrap ((i : Int) + 1) = ((i + 1 : Nat) : Int) := wrap_nat i (by omega)
  refine SWp.go pok (by kernel_rfl) ?_
  refine brP_split (fun h => ?_) (fun h => ?_)
  · rw [w1] at h
    have h := of_decide_eq_true h
    refine brP_split (fun h2 => ?_) (fun h2 => ?_)
    · have h2 : at' = -1 := by simpa using h2
      have hno : ∀ j, j < i → isCol s j = false := by
        rcases hq with ⟨_, hq⟩ | ⟨j, hj, _⟩
        · exact hq
        · omega
      have hlt : i < s.length := by omega
      have hlt1 : i + 1 < s.length := by omega
      have g0 := List.getElem?_eq_getElem hlt
      have g1 := List.getElem?_eq_getElem hlt1
      have nope : isCol s i = false → ∀ j, j < i + 1 → isCol s j = false := fun hc j hj => by
        by_cases e : j = i
        · rw [e]; exact hc
        · exact hno j (by omega)
      refine PIdx.at' (i := i) rfl g0 ?_
      refine brP_split (fun h3 => ?_) (fun h3 => ?_)
      · have h3 : s[i] = 58 := by
          have : s[i].toNat = 58 := by simp at h3; omega
          exact UInt8.toNat_inj.1 this
        refine PIdx.at' (i := i + 1) w1 g1 ?_
        refine brP_split (fun h4 => ?_) (fun h4 => ?_)
        · have h4 : s[i + 1] = 32 := by
            have : s[i + 1].toNat = 32 := by simp at h4; omega
            exact UInt8.toNat_inj.1 this
          refine ⟨(i + 1, (i : Int)), ⟨hlt, .inr ⟨i, rfl, by omega, ?_, hno⟩⟩, by show s.length - (i + 1) < s.length - i; omega, Le.same ⟨rfl, rfl, rfl, rfl, rfl, sint w1, trivial⟩⟩
          unfold isCol; rw [g0, g1, h3, h4]; rfl
        · have h4 : ¬ s[i + 1] = 32 := by
            intro e; rw [e] at h4; exact absurd h4 (by decide)
          refine ⟨(i + 1, at'), ⟨hlt, .inl ⟨h2, nope ?_⟩⟩, by show s.length - (i + 1) < s.length - i; omega, Le.same ⟨rfl, rfl, rfl, rfl, rfl, sint w1, trivial⟩⟩
          unfold isCol; rw [g0, g1]; simp [h4]
      · have h3 : ¬ s[i] = 58 := by
          intro e; rw [e] at h3; exact absurd h3 (by decide)
        refine ⟨(i + 1, at'), ⟨hlt, .inl ⟨h2, nope ?_⟩⟩, by show s.length - (i + 1) < s.length - i; omega, Le.same ⟨rfl, rfl, rfl, rfl, rfl, sint w1, trivial⟩⟩
        unfold isCol; rw [g0, g1]; simp [h3]
    · have h2 : at' ≠ -1 := by simpa using h2
      have hF : Fst (isCol s) at' ∧ (∀ j : Nat, at' = j → j + 2 ≤ s.length) := by
        rcases hq with ⟨h3, _⟩ | ⟨j, h3, h4, h5, h6⟩
        · exact absurd h3 h2
        · exact ⟨.inr ⟨j, h3, h5, h6⟩, fun k hk => by omega⟩
      clear hq h h2 w1 hi
      refine brP_split (fun f1 => ?_) (fun f1 => ?_)
      · have f1 := of_decide_eq_true f1
        refine ⟨rfl, ⟨3, 0, 0, 0, [], 0, .zero⟩, false, rfl, ⟨z 3 (by decide) (by decide), z 0 (by decide) (by decide), z 0 (by decide) (by decide), z 0 (by decide) (by decide), fun n h => absurd h (by simp), z 0 (by decide) (by decide), hz, by decide, n0, n0⟩, fun w hw hk => ?_⟩
        obtain ⟨j, _, e, h1, _⟩ := rej_at hF.1 hw hk
        omega
      have f1 := of_decide_eq_false f1
      obtain ⟨j, hj⟩ : ∃ j : Nat, at' = j := ⟨at'.toNat, by omega⟩
      have hjr := hF.2 j hj
      have hF1 := hF.1
      subst hj
      have wj : IntKind.i64.wrap ((j : Int) - 1) = ((j - 1 : Nat) : Int) := by rw [wrap_in (by unfold R64; omega)]; omega
      have wj2 : IntKind.i64.wrap ((j : Int) + 2) = ((j + 2 : Nat) : Int) := by rw [wrap_in (by unfold R64; omega)]; omega
      have hC0 : ∀ w, putV w = (s, 0) → w.kind = 3 → ∃ way, RejC s j w way := fun w hw hk => by
        obtain ⟨j', way, e, _, c⟩ := rej_at hF1 hw hk
        have : j = j' := by omega
        subst this
        exact ⟨way, c⟩
      refine ⟨by rw [wj]; show cutOk s.length none (some ((j - 1 : Nat) : Int)); unfold cutOk; omega, ?_⟩
      have n1 : PFun Tryz.prog 29 [sv' (cutFrom (cutTo s (some (IntKind.i64.wrap ((j : Int) - 1)))) none)] [] (.d (.sl ((Lib.split (s.take (j - 1)) [32]).map scell))) [] := by
        rw [wj]; exact rwords_c (s.take (j - 1)) (by rw [List.length_take]; omega)
      obtain ⟨ws, hws⟩ : ∃ ws, Lib.split (s.take (j - 1)) [32] = ws := ⟨_, rfl⟩
      have hwn : ws.length ≤ 900002 := by
        have := split_num (s.take (j - 1)) [32]
        rw [hws, List.length_take] at this; omega
      have hwl : ∀ w ∈ ws, w.length ≤ 1048576 := fun w hw => by
        rw [← hws] at hw
        have := split_len hw
        rw [List.length_take] at this; omega
      rw [hws] at n1
      refine PFun.call n1 ?_
      refine SWp.tipBox 1 4 1 rfl rfl ?_
      refine SWp.loop (fun q : Nat × List (List D) => q.1 ≤ ws.length ∧ q.2 = (countsK ws q.1).map icell)
        (fun q => ([(0, sv' s), (2, .ptr 0 0), (3, .d (.bool false)), (4, .ptr 1 0), (5, iv (j : Int)), (7, .d (.sl (ws.map scell))), (8, iv q.1)], [.box [iv 0, iv 0, iv 0, iv 0, .fsl [], iv 0, .fsl [], .fsl [], iv 0], .box [iv 3, iv 0, iv 0, iv (seenK ws q.1), .gsl q.2 2, iv 0, .fsl [], .fsl [], iv 0], .tip 1 q.2.length]))
        (fun q => ws.length - q.1) (0, []) ⟨Nat.zero_le _, by show ([] : List (List D)) = (countsK ws 0).map icell; rw [countsK_low ws (by decide)]; rfl⟩ (Le.same ⟨rfl, rfl, rfl, rfl, rfl, rfl, rfl, trivial⟩) (fun q hq => ?_)
      obtain ⟨k, rows⟩ := q
      obtain ⟨hk, hrows⟩ := hq
      dsimp only at hk hrows ⊢
      refine SWp.go pok (by kernel_rfl) ?_
      refine brP_split (fun k1 => ?_) (fun k1 => ?_)
      · have hlt : k < ws.length := by have := of_decide_eq_true k1; rw [List.length_map] at this; omega
        refine PIdx.map (get_at hlt) ?_
        refine PFun.call (rnum_c ws[k] (hwl _ (List.getElem_mem hlt))) ?_
        refine brP_split (fun k2 => ?_) (fun k2 => ?_)
        · have k2 : k = 0 := by simp at k2; omega
          subst k2
          have hr : rows = [] := by rw [hrows, countsK_low ws (by decide)]; rfl
          subst hr
          refine PIdx.map (get_at hlt) ?_
          refine brP_split (fun k3 => ?_) (fun k3 => ?_)
          · have k3 : ws[0] ≠ wRej := fun e => by rw [e] at k3; exact absurd k3 (by decide)
            refine ⟨rfl, ⟨3, 0, 0, 0, [], 0, .zero⟩, false, rfl, ⟨z 3 (by decide) (by decide), z 0 (by decide) (by decide), z 0 (by decide) (by decide), z 0 (by decide) (by decide), fun n h => absurd h (by simp), z 0 (by decide) (by decide), hz, by decide, n0, n0⟩, fun w hw hk => ?_⟩
            obtain ⟨way, c⟩ := hC0 w hw hk
            have := hws.symm.trans c.words
            subst this
            exact absurd rfl k3
          · refine ⟨(1, []), ⟨hlt, by show ([] : List (List D)) = (countsK ws 1).map icell; rw [countsK_low ws (by decide)]; rfl⟩, by show ws.length - 1 < ws.length - 0; omega, .inr ⟨[0, 1, 2], ⟨rfl, rfl⟩, rfl, rfl, rfl, rfl, rfl, rfl, rfl, sint rfl, trivial⟩⟩
        · have k2 : ¬ k = 0 := by simp at k2; omega
          refine brP_split (fun k3 => ?_) (fun k3 => ?_)
          · have k3 : k = 1 := by simp at k3; omega
            subst k3
            have hr : rows = [] := by rw [hrows, countsK_low ws (by decide)]; rfl
            subst hr
            have hsk : seenK ws 2 = num30 ws[1] := by
              unfold seenK
              rw [if_neg (by decide), List.getD_eq_getElem?_getD, List.getElem?_eq_getElem hlt]; rfl
            refine ⟨(2, []), ⟨hlt, by show ([] : List (List D)) = (countsK ws 2).map icell; rw [countsK_low ws (by decide)]; rfl⟩, by show ws.length - 2 < ws.length - 1; omega, .inr ⟨[0, 1, 2], ⟨rfl, rfl⟩, ?_, rfl, rfl, rfl, rfl, rfl, rfl, sint rfl, trivial⟩⟩
            dsimp only
            rw [hsk]; rfl
          · have k3 : ¬ k = 1 := by simp at k3; omega
            have hcl := countsK_len ws k
            have hsk : seenK ws (k + 1) = seenK ws k := by
              unfold seenK; rw [if_neg (by omega), if_neg (by omega)]
            subst hrows
            refine ⟨⟨rfl, fun x hx => ?_, fun x hx => ?_, ?_⟩, ?_⟩
            · obtain ⟨n, _, rfl⟩ := List.mem_map.1 hx; rfl
            · simp [List.replicate, List.set] at hx; subst hx; rfl
            · simp; omega
            refine ⟨(k + 1, (countsK ws k).map icell ++ [icell (num30 ws[k])]), ⟨hlt, by show _ = (countsK ws (k + 1)).map icell; rw [countsK_snoc ws (by omega) hlt, List.map_append]; rfl⟩, by show ws.length - (k + 1) < ws.length - k; omega, .inr ⟨[0, 1, 2], ⟨rfl, rfl⟩, ?_, rfl, rfl, rfl, rfl, rfl, rfl, sint (wrap_nat k (by omega)), trivial⟩⟩
            dsimp only
            rw [hsk]; rfl
      · have hk' : k = ws.length := by have := of_decide_eq_false k1; rw [List.length_map] at this; omega
        subst hk'
        subst hrows
        refine ⟨by rw [wj2]; show cutOk s.length (some ((j + 2 : Nat) : Int)) none; unfold cutOk; omega, ?_⟩
        obtain ⟨rest, hrest⟩ : ∃ rest, rest = s.drop (j + 2) := ⟨_, rfl⟩
        have hrl : rest.length ≤ 900000 := by rw [hrest, List.length_drop]; omega
        refine SWp.loop (fun q : Nat × Int => q.1 ≤ rest.length ∧ ((q.2 = -1 ∧ ∀ j, j < q.1 → isBar rest j = false) ∨ ∃ j : Nat, q.2 = j ∧ isBar rest j = true ∧ ∀ i, i < j → isBar rest i = false))
          (fun q => ([(2, .ptr 0 0), (3, .d (.bool false)), (4, .ptr 1 0), (7, .d (.sl (ws.map scell))), (10, sv' rest), (11, iv q.2), (12, iv q.1)], [.box [iv 0, iv 0, iv 0, iv 0, .fsl [], iv 0, .fsl [], .fsl [], iv 0], .box [iv 3, iv 0, iv 0, iv (seenK ws ws.length), .gsl ((countsK ws ws.length).map icell) 2, iv 0, .fsl [], .fsl [], iv 0], .tip 1 ((countsK ws ws.length).map icell).length]))
          (fun q => rest.length - q.1) (0, -1) ⟨Nat.zero_le _, .inl ⟨rfl, fun j hj => absurd hj (Nat.not_lt_zero _)⟩⟩ (Le.same ⟨rfl, rfl, rfl, rfl, sv (by rw [hrest, wj2]; rfl), rfl, rfl, trivial⟩) (fun q hq => ?_)
        obtain ⟨i, b⟩ := q
        obtain ⟨hi, hq⟩ := hq
        dsimp only at hi hq ⊢
        have hC : ∀ w, putV w = (s, 0) → w.kind = 3 → ∃ way, RejC s j w way := hC0
        have w3 : IntKind.i64.wrap ((i : Int) + 3) = ((i + 3 : Nat) : Int) := by rw [wrap_in (by unfold R64; omega)]; omega
        refine SWp.go pok (by kernel_rfl) ?_
        refine brP_split (fun h => ?_) (fun h => ?_)
        · rw [w3] at h
          have h := of_decide_eq_true h
          have h : i + 3 ≤ rest.length := by omega
          refine brP_split (fun h2 => ?_) (fun h2 => ?_)
          · have h2 : b = -1 := by simpa using h2
            have hno : ∀ j, j < i → isBar rest j = false := by
              rcases hq with ⟨_, hq⟩ | ⟨j, hj, _⟩
              · exact hq
              · omega
            refine ⟨by rw [w3]; show cutOk rest.length (some (i : Int)) (some ((i + 3 : Nat) : Int)); unfold cutOk; omega, ?_⟩
            have c1 : cutFrom (cutTo rest (some (IntKind.i64.wrap ((i : Int) + 3)))) (some (i : Int)) = (rest.take (i + 3)).drop i := by rw [w3]; rfl
            refine brP_split (fun h3 => ?_) (fun h3 => ?_)
            · rw [c1] at h3
              have hb : isBar rest i = true := h3
              exact ⟨(i + 1, (i : Int)), ⟨by show i + 1 ≤ _; omega, .inr ⟨i, rfl, hb, hno⟩⟩, by show rest.length - (i + 1) < rest.length - i; omega, Le.same ⟨rfl, rfl, rfl, rfl, rfl, rfl, sint (wrap_nat i (by omega)), trivial⟩⟩
            · rw [c1] at h3
              have hb : isBar rest i = false := h3
              refine ⟨(i + 1, b), ⟨by show i + 1 ≤ _; omega, .inl ⟨h2, fun j hj => ?_⟩⟩, by show rest.length - (i + 1) < rest.length - i; omega, Le.same ⟨rfl, rfl, rfl, rfl, rfl, rfl, sint (wrap_nat i (by omega)), trivial⟩⟩
              by_cases e : j = i
              · rw [e]; exact hb
              · exact hno j (by omega)
          · have h2 : b ≠ -1 := by simpa using h2
            have hB : Fst (isBar rest) b := by
              rcases hq with ⟨h3, _⟩ | h3
              · exact absurd h3 h2
              · exact .inr h3
            refine brP_split (fun g1 => ?_) (fun g1 => ?_)
            · have g1 := of_decide_eq_true g1
              refine ⟨rfl, ⟨3, 0, 0, seenK ws ws.length, countsK ws ws.length, 0, .zero⟩, false, rfl, ⟨z 3 (by decide) (by decide), z 0 (by decide) (by decide), z 0 (by decide) (by decide), seenK_r _ _, countsK_r _ _, z 0 (by decide) (by decide), hz, by have := countsK_len ws ws.length; show (countsK ws ws.length).length ≤ 1000000; omega, n0, n0⟩, fun w hw hk => ?_⟩
              obtain ⟨way, c⟩ := hC w hw hk
              rw [hrest, c.rest] at hB
              have := bar_first (itoa_out c.n2.1 (.inr (by decide))) way hB
              omega
            have g1 := of_decide_eq_false g1
            refine brP_split (fun g2 => ?_) (fun g2 => ?_)
            · have g2 : ws.length < 2 := by have := of_decide_eq_true g2; rw [List.length_map] at this; omega
              refine ⟨rfl, ⟨3, 0, 0, seenK ws ws.length, countsK ws ws.length, 0, .zero⟩, false, rfl, ⟨z 3 (by decide) (by decide), z 0 (by decide) (by decide), z 0 (by decide) (by decide), seenK_r _ _, countsK_r _ _, z 0 (by decide) (by decide), hz, by have := countsK_len ws ws.length; show (countsK ws ws.length).length ≤ 1000000; omega, n0, n0⟩, fun w hw hk => ?_⟩
              obtain ⟨way, c⟩ := hC w hw hk
              have := congrArg List.length (hws.symm.trans c.words)
              simp at this; omega
            obtain ⟨m, hm, hmr⟩ : ∃ m : Nat, b = m ∧ m + 3 ≤ rest.length := by
              rcases hB with ⟨e, _⟩ | ⟨m, e, hb, _⟩
              · omega
              · exact ⟨m, e, isBar_room hb⟩
            subst hm
            have wm : IntKind.i64.wrap ((m : Int) + 3) = ((m + 3 : Nat) : Int) := by rw [wrap_in (by unfold R64; omega)]; omega
            refine ⟨by show cutOk rest.length none (some (m : Int)); unfold cutOk; omega, ?_⟩
            refine PFun.call (rnum_c (rest.take m) (by rw [List.length_take]; omega)) ?_
            refine ⟨by rw [wm]; show cutOk rest.length (some ((m + 3 : Nat) : Int)) none; unfold cutOk; omega, ?_⟩
            have n9 : PFun Tryz.prog 52 [sv' (cutFrom (cutTo rest none) (some (IntKind.i64.wrap ((m : Int) + 3))))] [] (.tup [(parseL (rest.drop (m + 3))).1.v, iv (parseL (rest.drop (m + 3))).2]) [] := by
              rw [wm]; exact parse18_c (rest.drop (m + 3)) (by rw [List.length_drop]; omega)
            have pok' := parseL_ok (rest.drop (m + 3))
            have vok : Vd.ok ⟨3, 0, 0, seenK ws ws.length, countsK ws ws.length, num30 (rest.take m), (parseL (rest.drop (m + 3))).1⟩ := ⟨z 3 (by decide) (by decide), z 0 (by decide) (by decide), z 0 (by decide) (by decide), seenK_r _ _, countsK_r _ _, num30_r _, pok'.1, by have := countsK_len ws ws.length; show (countsK ws ws.length).length ≤ 1000000; omega, Nat.le_trans pok'.2.1 (by decide), Nat.le_trans pok'.2.2 (by decide)⟩
            have fit : ∀ w, putV w = (s, 0) → w.kind = 3 → (⟨3, 0, 0, seenK ws ws.length, countsK ws ws.length, num30 (rest.take m), (parseL (rest.drop (m + 3))).1⟩ : Vd) = w ∧ (parseL (rest.drop (m + 3))).2 = 0 := fun w hw hk => by
              obtain ⟨way, c⟩ := hC w hw hk
              have hB' := hB
              rw [hrest, c.rest] at hB'
              have hmm := bar_first (itoa_out c.n2.1 (.inr (by decide))) way hB'
              have hmm : m = (Lib.itoa w.what).length := by omega
              have hw2 := hws.symm.trans c.words
              have e1 : rest.take m = Lib.itoa w.what := by rw [hrest, c.rest, hmm, List.append_assoc, List.take_left' rfl]
              have e2 : rest.drop (m + 3) = way := by rw [hrest, c.rest, hmm, List.drop_left' (by simp)]
              rw [e1, e2, c.lasso, num30_itoa c.n2.1 c.n2.2, hw2]
              refine ⟨?_, rfl⟩
              have e3 : seenK ([wRej, Lib.itoa w.seen] ++ w.counts.map Lib.itoa) ([wRej, Lib.itoa w.seen] ++ w.counts.map Lib.itoa).length = w.seen := by
                unfold seenK
                rw [if_neg (by simp)]
                exact num30_itoa c.n1.1 c.n1.2
              have e4 : countsK ([wRej, Lib.itoa w.seen] ++ w.counts.map Lib.itoa) ([wRej, Lib.itoa w.seen] ++ w.counts.map Lib.itoa).length = w.counts := by
                unfold countsK
                rw [List.take_length]
                exact counts_all c.n3
              rw [e3, e4]
              exact c.is.symm
            generalize parseL (rest.drop (m + 3)) = Z at n9 vok fit ⊢
            obtain ⟨zl, ze⟩ := Z
            refine PFun.call n9 ?_
            refine brP_split (fun g3 => ?_) (fun g3 => ?_)
            · have g3 : ze = 0 := by simpa using g3
              exact ⟨rfl, _, true, rfl, vok, fun w hw hk => ⟨(fit w hw hk).1, rfl⟩⟩
            · have g3 : ¬ ze = 0 := by simpa using g3
              exact ⟨rfl, _, false, rfl, vok, fun w hw hk => absurd (fit w hw hk).2 g3⟩
        · rw [w3] at h
          have h := of_decide_eq_false h
          have hB : Fst (isBar rest) b := by
            rcases hq with ⟨h3, h4⟩ | h3
            · refine .inl ⟨h3, fun j => ?_⟩
              by_cases e : j < i
              · exact h4 j e
              · rw [Bool.eq_false_iff]; intro hb; have := isBar_room hb; omega
            · exact .inr h3
          refine brP_split (fun g1 => ?_) (fun g1 => ?_)
          · have g1 := of_decide_eq_true g1
            refine ⟨rfl, ⟨3, 0, 0, seenK ws ws.length, countsK ws ws.length, 0, .zero⟩, false, rfl, ⟨z 3 (by decide) (by decide), z 0 (by decide) (by decide), z 0 (by decide) (by decide), seenK_r _ _, countsK_r _ _, z 0 (by decide) (by decide), hz, by have := countsK_len ws ws.length; show (countsK ws ws.length).length ≤ 1000000; omega, n0, n0⟩, fun w hw hk => ?_⟩
            obtain ⟨way, c⟩ := hC w hw hk
            rw [hrest, c.rest] at hB
            have := bar_first (itoa_out c.n2.1 (.inr (by decide))) way hB
            omega
          have g1 := of_decide_eq_false g1
          refine brP_split (fun g2 => ?_) (fun g2 => ?_)
          · have g2 : ws.length < 2 := by have := of_decide_eq_true g2; rw [List.length_map] at this; omega
            refine ⟨rfl, ⟨3, 0, 0, seenK ws ws.length, countsK ws ws.length, 0, .zero⟩, false, rfl, ⟨z 3 (by decide) (by decide), z 0 (by decide) (by decide), z 0 (by decide) (by decide), seenK_r _ _, countsK_r _ _, z 0 (by decide) (by decide), hz, by have := countsK_len ws ws.length; show (countsK ws ws.length).length ≤ 1000000; omega, n0, n0⟩, fun w hw hk => ?_⟩
            obtain ⟨way, c⟩ := hC w hw hk
            have := congrArg List.length (hws.symm.trans c.words)
            simp at this; omega
          obtain ⟨m, hm, hmr⟩ : ∃ m : Nat, b = m ∧ m + 3 ≤ rest.length := by
            rcases hB with ⟨e, _⟩ | ⟨m, e, hb, _⟩
            · omega
            · exact ⟨m, e, isBar_room hb⟩
          subst hm
          have wm : IntKind.i64.wrap ((m : Int) + 3) = ((m + 3 : Nat) : Int) := by rw [wrap_in (by unfold R64; omega)]; omega
          refine ⟨by show cutOk rest.length none (some (m : Int)); unfold cutOk; omega, ?_⟩
          refine PFun.call (rnum_c (rest.take m) (by rw [List.length_take]; omega)) ?_
          refine ⟨by rw [wm]; show cutOk rest.length (some ((m + 3 : Nat) : Int)) none; unfold cutOk; omega, ?_⟩
          have n9 : PFun Tryz.prog 52 [sv' (cutFrom (cutTo rest none) (some (IntKind.i64.wrap ((m : Int) + 3))))] [] (.tup [(parseL (rest.drop (m + 3))).1.v, iv (parseL (rest.drop (m + 3))).2]) [] := by
            rw [wm]; exact parse18_c (rest.drop (m + 3)) (by rw [List.length_drop]; omega)
          have pok' := parseL_ok (rest.drop (m + 3))
          have vok : Vd.ok ⟨3, 0, 0, seenK ws ws.length, countsK ws ws.length, num30 (rest.take m), (parseL (rest.drop (m + 3))).1⟩ := ⟨z 3 (by decide) (by decide), z 0 (by decide) (by decide), z 0 (by decide) (by decide), seenK_r _ _, countsK_r _ _, num30_r _, pok'.1, by have := countsK_len ws ws.length; show (countsK ws ws.length).length ≤ 1000000; omega, Nat.le_trans pok'.2.1 (by decide), Nat.le_trans pok'.2.2 (by decide)⟩
          have fit : ∀ w, putV w = (s, 0) → w.kind = 3 → (⟨3, 0, 0, seenK ws ws.length, countsK ws ws.length, num30 (rest.take m), (parseL (rest.drop (m + 3))).1⟩ : Vd) = w ∧ (parseL (rest.drop (m + 3))).2 = 0 := fun w hw hk => by
            obtain ⟨way, c⟩ := hC w hw hk
            have hB' := hB
            rw [hrest, c.rest] at hB'
            have hmm := bar_first (itoa_out c.n2.1 (.inr (by decide))) way hB'
            have hmm : m = (Lib.itoa w.what).length := by omega
            have hw2 := hws.symm.trans c.words
            have e1 : rest.take m = Lib.itoa w.what := by rw [hrest, c.rest, hmm, List.append_assoc, List.take_left' rfl]
            have e2 : rest.drop (m + 3) = way := by rw [hrest, c.rest, hmm, List.drop_left' (by simp)]
            rw [e1, e2, c.lasso, num30_itoa c.n2.1 c.n2.2, hw2]
            refine ⟨?_, rfl⟩
            have e3 : seenK ([wRej, Lib.itoa w.seen] ++ w.counts.map Lib.itoa) ([wRej, Lib.itoa w.seen] ++ w.counts.map Lib.itoa).length = w.seen := by
              unfold seenK
              rw [if_neg (by simp)]
              exact num30_itoa c.n1.1 c.n1.2
            have e4 : countsK ([wRej, Lib.itoa w.seen] ++ w.counts.map Lib.itoa) ([wRej, Lib.itoa w.seen] ++ w.counts.map Lib.itoa).length = w.counts := by
              unfold countsK
              rw [List.take_length]
              exact counts_all c.n3
            rw [e3, e4]
            exact c.is.symm
          generalize parseL (rest.drop (m + 3)) = Z at n9 vok fit ⊢
          obtain ⟨zl, ze⟩ := Z
          refine PFun.call n9 ?_
          refine brP_split (fun g3 => ?_) (fun g3 => ?_)
          · have g3 : ze = 0 := by simpa using g3
            exact ⟨rfl, _, true, rfl, vok, fun w hw hk => ⟨(fit w hw hk).1, rfl⟩⟩
          · have g3 : ¬ ze = 0 := by simpa using g3
            exact ⟨rfl, _, false, rfl, vok, fun w hw hk => absurd (fit w hw hk).2 g3⟩
  · rw [w1] at h
    have h := of_decide_eq_false h
    have hF : Fst (isCol s) at' ∧ (∀ j : Nat, at' = j → j + 2 ≤ s.length) := by
      rcases hq with ⟨h3, h4⟩ | ⟨j, h3, h4, h5, h6⟩
      · refine ⟨.inl ⟨h3, fun j => ?_⟩, fun k hk => by omega⟩
        by_cases e : j < i
        · exact h4 j e
        · unfold isCol
          rw [Bool.and_eq_false_iff]
          right
          rw [List.getElem?_eq_none (by omega)]; rfl
      · exact ⟨.inr ⟨j, h3, h5, h6⟩, fun k hk => by omega⟩
    clear hq h w1 hi
    refine brP_split (fun f1 => ?_) (fun f1 => ?_)
    · have f1 := of_decide_eq_true f1
      refine ⟨rfl, ⟨3, 0, 0, 0, [], 0, .zero⟩, false, rfl, ⟨z 3 (by decide) (by decide), z 0 (by decide) (by decide), z 0 (by decide) (by decide), z 0 (by decide) (by decide), fun n h => absurd h (by simp), z 0 (by decide) (by decide), hz, by decide, n0, n0⟩, fun w hw hk => ?_⟩
      obtain ⟨j, _, e, h1, _⟩ := rej_at hF.1 hw hk
      omega
    have f1 := of_decide_eq_false f1
    obtain ⟨j, hj⟩ : ∃ j : Nat, at' = j := ⟨at'.toNat, by omega⟩
    have hjr := hF.2 j hj
    have hF1 := hF.1
    subst hj
    have wj : IntKind.i64.wrap ((j : Int) - 1) = ((j - 1 : Nat) : Int) := by rw [wrap_in (by unfold R64; omega)]; omega
    have wj2 : IntKind.i64.wrap ((j : Int) + 2) = ((j + 2 : Nat) : Int) := by rw [wrap_in (by unfold R64; omega)]; omega
    have hC0 : ∀ w, putV w = (s, 0) → w.kind = 3 → ∃ way, RejC s j w way := fun w hw hk => by
      obtain ⟨j', way, e, _, c⟩ := rej_at hF1 hw hk
      have : j = j' := by omega
      subst this
      exact ⟨way, c⟩
    refine ⟨by rw [wj]; show cutOk s.length none (some ((j - 1 : Nat) : Int)); unfold cutOk; omega, ?_⟩
    have n1 : PFun Tryz.prog 29 [sv' (cutFrom (cutTo s (some (IntKind.i64.wrap ((j : Int) - 1)))) none)] [] (.d (.sl ((Lib.split (s.take (j - 1)) [32]).map scell))) [] := by
      rw [wj]; exact rwords_c (s.take (j - 1)) (by rw [List.length_take]; omega)
    obtain ⟨ws, hws⟩ : ∃ ws, Lib.split (s.take (j - 1)) [32] = ws := ⟨_, rfl⟩
    have hwn : ws.length ≤ 900002 := by
      have := split_num (s.take (j - 1)) [32]
      rw [hws, List.length_take] at this; omega
    have hwl : ∀ w ∈ ws, w.length ≤ 1048576 := fun w hw => by
      rw [← hws] at hw
      have := split_len hw
      rw [List.length_take] at this; omega
    rw [hws] at n1
    refine PFun.call n1 ?_
    refine SWp.tipBox 1 4 1 rfl rfl ?_
    refine SWp.loop (fun q : Nat × List (List D) => q.1 ≤ ws.length ∧ q.2 = (countsK ws q.1).map icell)
      (fun q => ([(0, sv' s), (2, .ptr 0 0), (3, .d (.bool false)), (4, .ptr 1 0), (5, iv (j : Int)), (7, .d (.sl (ws.map scell))), (8, iv q.1)], [.box [iv 0, iv 0, iv 0, iv 0, .fsl [], iv 0, .fsl [], .fsl [], iv 0], .box [iv 3, iv 0, iv 0, iv (seenK ws q.1), .gsl q.2 2, iv 0, .fsl [], .fsl [], iv 0], .tip 1 q.2.length]))
      (fun q => ws.length - q.1) (0, []) ⟨Nat.zero_le _, by show ([] : List (List D)) = (countsK ws 0).map icell; rw [countsK_low ws (by decide)]; rfl⟩ (Le.same ⟨rfl, rfl, rfl, rfl, rfl, rfl, rfl, trivial⟩) (fun q hq => ?_)
    obtain ⟨k, rows⟩ := q
    obtain ⟨hk, hrows⟩ := hq
    dsimp only at hk hrows ⊢
    refine SWp.go pok (by kernel_rfl) ?_
    refine brP_split (fun k1 => ?_) (fun k1 => ?_)
    · have hlt : k < ws.length := by have := of_decide_eq_true k1; rw [List.length_map] at this; omega
      refine PIdx.map (get_at hlt) ?_
      refine PFun.call (rnum_c ws[k] (hwl _ (List.getElem_mem hlt))) ?_
      refine brP_split (fun k2 => ?_) (fun k2 => ?_)
      · have k2 : k = 0 := by simp at k2; omega
        subst k2
        have hr : rows = [] := by rw [hrows, countsK_low ws (by decide)]; rfl
        subst hr
        refine PIdx.map (get_at hlt) ?_
        refine brP_split (fun k3 => ?_) (fun k3 => ?_)
        · have k3 : ws[0] ≠ wRej := fun e => by rw [e] at k3; exact absurd k3 (by decide)
          refine ⟨rfl, ⟨3, 0, 0, 0, [], 0, .zero⟩, false, rfl, ⟨z 3 (by decide) (by decide), z 0 (by decide) (by decide), z 0 (by decide) (by decide), z 0 (by decide) (by decide), fun n h => absurd h (by simp), z 0 (by decide) (by decide), hz, by decide, n0, n0⟩, fun w hw hk => ?_⟩
          obtain ⟨way, c⟩ := hC0 w hw hk
          have := hws.symm.trans c.words
          subst this
          exact absurd rfl k3
        · refine ⟨(1, []), ⟨hlt, by show ([] : List (List D)) = (countsK ws 1).map icell; rw [countsK_low ws (by decide)]; rfl⟩, by show ws.length - 1 < ws.length - 0; omega, .inr ⟨[0, 1, 2], ⟨rfl, rfl⟩, rfl, rfl, rfl, rfl, rfl, rfl, rfl, sint rfl, trivial⟩⟩
      · have k2 : ¬ k = 0 := by simp at k2; omega
        refine brP_split (fun k3 => ?_) (fun k3 => ?_)
        · have k3 : k = 1 := by simp at k3; omega
          subst k3
          have hr : rows = [] := by rw [hrows, countsK_low ws (by decide)]; rfl
          subst hr
          have hsk : seenK ws 2 = num30 ws[1] := by
            unfold seenK
            rw [if_neg (by decide), List.getD_eq_getElem?_getD, List.getElem?_eq_getElem hlt]; rfl
          refine ⟨(2, []), ⟨hlt, by show ([] : List (List D)) = (countsK ws 2).map icell; rw [countsK_low ws (by decide)]; rfl⟩, by show ws.length - 2 < ws.length - 1; omega, .inr ⟨[0, 1, 2], ⟨rfl, rfl⟩, ?_, rfl, rfl, rfl, rfl, rfl, rfl, sint rfl, trivial⟩⟩
          dsimp only
          rw [hsk]; rfl
        · have k3 : ¬ k = 1 := by simp at k3; omega
          have hcl := countsK_len ws k
          have hsk : seenK ws (k + 1) = seenK ws k := by
            unfold seenK; rw [if_neg (by omega), if_neg (by omega)]
          subst hrows
          refine ⟨⟨rfl, fun x hx => ?_, fun x hx => ?_, ?_⟩, ?_⟩
          · obtain ⟨n, _, rfl⟩ := List.mem_map.1 hx; rfl
          · simp [List.replicate, List.set] at hx; subst hx; rfl
          · simp; omega
          refine ⟨(k + 1, (countsK ws k).map icell ++ [icell (num30 ws[k])]), ⟨hlt, by show _ = (countsK ws (k + 1)).map icell; rw [countsK_snoc ws (by omega) hlt, List.map_append]; rfl⟩, by show ws.length - (k + 1) < ws.length - k; omega, .inr ⟨[0, 1, 2], ⟨rfl, rfl⟩, ?_, rfl, rfl, rfl, rfl, rfl, rfl, sint (wrap_nat k (by omega)), trivial⟩⟩
          dsimp only
          rw [hsk]; rfl
    · have hk' : k = ws.length := by have := of_decide_eq_false k1; rw [List.length_map] at this; omega
      subst hk'
      subst hrows
      refine ⟨by rw [wj2]; show cutOk s.length (some ((j + 2 : Nat) : Int)) none; unfold cutOk; omega, ?_⟩
      obtain ⟨rest, hrest⟩ : ∃ rest, rest = s.drop (j + 2) := ⟨_, rfl⟩
      have hrl : rest.length ≤ 900000 := by rw [hrest, List.length_drop]; omega
      refine SWp.loop (fun q : Nat × Int => q.1 ≤ rest.length ∧ ((q.2 = -1 ∧ ∀ j, j < q.1 → isBar rest j = false) ∨ ∃ j : Nat, q.2 = j ∧ isBar rest j = true ∧ ∀ i, i < j → isBar rest i = false))
        (fun q => ([(2, .ptr 0 0), (3, .d (.bool false)), (4, .ptr 1 0), (7, .d (.sl (ws.map scell))), (10, sv' rest), (11, iv q.2), (12, iv q.1)], [.box [iv 0, iv 0, iv 0, iv 0, .fsl [], iv 0, .fsl [], .fsl [], iv 0], .box [iv 3, iv 0, iv 0, iv (seenK ws ws.length), .gsl ((countsK ws ws.length).map icell) 2, iv 0, .fsl [], .fsl [], iv 0], .tip 1 ((countsK ws ws.length).map icell).length]))
        (fun q => rest.length - q.1) (0, -1) ⟨Nat.zero_le _, .inl ⟨rfl, fun j hj => absurd hj (Nat.not_lt_zero _)⟩⟩ (Le.same ⟨rfl, rfl, rfl, rfl, sv (by rw [hrest, wj2]; rfl), rfl, rfl, trivial⟩) (fun q hq => ?_)
      obtain ⟨i, b⟩ := q
      obtain ⟨hi, hq⟩ := hq
      dsimp only at hi hq ⊢
      have hC : ∀ w, putV w = (s, 0) → w.kind = 3 → ∃ way, RejC s j w way := hC0
      have w3 : IntKind.i64.wrap ((i : Int) + 3) = ((i + 3 : Nat) : Int) := by rw [wrap_in (by unfold R64; omega)]; omega
      refine SWp.go pok (by kernel_rfl) ?_
      refine brP_split (fun h => ?_) (fun h => ?_)
      · rw [w3] at h
        have h := of_decide_eq_true h
        have h : i + 3 ≤ rest.length := by omega
        refine brP_split (fun h2 => ?_) (fun h2 => ?_)
        · have h2 : b = -1 := by simpa using h2
          have hno : ∀ j, j < i → isBar rest j = false := by
            rcases hq with ⟨_, hq⟩ | ⟨j, hj, _⟩
            · exact hq
            · omega
          refine ⟨by rw [w3]; show cutOk rest.length (some (i : Int)) (some ((i + 3 : Nat) : Int)); unfold cutOk; omega, ?_⟩
          have c1 : cutFrom (cutTo rest (some (IntKind.i64.wrap ((i : Int) + 3)))) (some (i : Int)) = (rest.take (i + 3)).drop i := by rw [w3]; rfl
          refine brP_split (fun h3 => ?_) (fun h3 => ?_)
          · rw [c1] at h3
            have hb : isBar rest i = true := h3
            exact ⟨(i + 1, (i : Int)), ⟨by show i + 1 ≤ _; omega, .inr ⟨i, rfl, hb, hno⟩⟩, by show rest.length - (i + 1) < rest.length - i; omega, Le.same ⟨rfl, rfl, rfl, rfl, rfl, rfl, sint (wrap_nat i (by omega)), trivial⟩⟩
          · rw [c1] at h3
            have hb : isBar rest i = false := h3
            refine ⟨(i + 1, b), ⟨by show i + 1 ≤ _; omega, .inl ⟨h2, fun j hj => ?_⟩⟩, by show rest.length - (i + 1) < rest.length - i; omega, Le.same ⟨rfl, rfl, rfl, rfl, rfl, rfl, sint (wrap_nat i (by omega)), trivial⟩⟩
            by_cases e : j = i
            · rw [e]; exact hb
            · exact hno j (by omega)
        · have h2 : b ≠ -1 := by simpa using h2
          have hB : Fst (isBar rest) b := by
            rcases hq with ⟨h3, _⟩ | h3
            · exact absurd h3 h2
            · exact .inr h3
          refine brP_split (fun g1 => ?_) (fun g1 => ?_)
          · have g1 := of_decide_eq_true g1
            refine ⟨rfl, ⟨3, 0, 0, seenK ws ws.length, countsK ws ws.length, 0, .zero⟩, false, rfl, ⟨z 3 (by decide) (by decide), z 0 (by decide) (by decide), z 0 (by decide) (by decide), seenK_r _ _, countsK_r _ _, z 0 (by decide) (by decide), hz, by have := countsK_len ws ws.length; show (countsK ws ws.length).length ≤ 1000000; omega, n0, n0⟩, fun w hw hk => ?_⟩
            obtain ⟨way, c⟩ := hC w hw hk
            rw [hrest, c.rest] at hB
            have := bar_first (itoa_out c.n2.1 (.inr (by decide))) way hB
            omega
          have g1 := of_decide_eq_false g1
          refine brP_split (fun g2 => ?_) (fun g2 => ?_)
          · have g2 : ws.length < 2 := by have := of_decide_eq_true g2; rw [List.length_map] at this; omega
            refine ⟨rfl, ⟨3, 0, 0, seenK ws ws.length, countsK ws ws.length, 0, .zero⟩, false, rfl, ⟨z 3 (by decide) (by decide), z 0 (by decide) (by decide), z 0 (by decide) (by decide), seenK_r _ _, countsK_r _ _, z 0 (by decide) (by decide), hz, by have := countsK_len ws ws.length; show (countsK ws ws.length).length ≤ 1000000; omega, n0, n0⟩, fun w hw hk => ?_⟩
            obtain ⟨way, c⟩ := hC w hw hk
            have := congrArg List.length (hws.symm.trans c.words)
            simp at this; omega
          obtain ⟨m, hm, hmr⟩ : ∃ m : Nat, b = m ∧ m + 3 ≤ rest.length := by
            rcases hB with ⟨e, _⟩ | ⟨m, e, hb, _⟩
            · omega
            · exact ⟨m, e, isBar_room hb⟩
          subst hm
          have wm : IntKind.i64.wrap ((m : Int) + 3) = ((m + 3 : Nat) : Int) := by rw [wrap_in (by unfold R64; omega)]; omega
          refine ⟨by show cutOk rest.length none (some (m : Int)); unfold cutOk; omega, ?_⟩
          refine PFun.call (rnum_c (rest.take m) (by rw [List.length_take]; omega)) ?_
          refine ⟨by rw [wm]; show cutOk rest.length (some ((m + 3 : Nat) : Int)) none; unfold cutOk; omega, ?_⟩
          have n9 : PFun Tryz.prog 52 [sv' (cutFrom (cutTo rest none) (some (IntKind.i64.wrap ((m : Int) + 3))))] [] (.tup [(parseL (rest.drop (m + 3))).1.v, iv (parseL (rest.drop (m + 3))).2]) [] := by
            rw [wm]; exact parse18_c (rest.drop (m + 3)) (by rw [List.length_drop]; omega)
          have pok' := parseL_ok (rest.drop (m + 3))
          have vok : Vd.ok ⟨3, 0, 0, seenK ws ws.length, countsK ws ws.length, num30 (rest.take m), (parseL (rest.drop (m + 3))).1⟩ := ⟨z 3 (by decide) (by decide), z 0 (by decide) (by decide), z 0 (by decide) (by decide), seenK_r _ _, countsK_r _ _, num30_r _, pok'.1, by have := countsK_len ws ws.length; show (countsK ws ws.length).length ≤ 1000000; omega, Nat.le_trans pok'.2.1 (by decide), Nat.le_trans pok'.2.2 (by decide)⟩
          have fit : ∀ w, putV w = (s, 0) → w.kind = 3 → (⟨3, 0, 0, seenK ws ws.length, countsK ws ws.length, num30 (rest.take m), (parseL (rest.drop (m + 3))).1⟩ : Vd) = w ∧ (parseL (rest.drop (m + 3))).2 = 0 := fun w hw hk => by
            obtain ⟨way, c⟩ := hC w hw hk
            have hB' := hB
            rw [hrest, c.rest] at hB'
            have hmm := bar_first (itoa_out c.n2.1 (.inr (by decide))) way hB'
            have hmm : m = (Lib.itoa w.what).length := by omega
            have hw2 := hws.symm.trans c.words
            have e1 : rest.take m = Lib.itoa w.what := by rw [hrest, c.rest, hmm, List.append_assoc, List.take_left' rfl]
            have e2 : rest.drop (m + 3) = way := by rw [hrest, c.rest, hmm, List.drop_left' (by simp)]
            rw [e1, e2, c.lasso, num30_itoa c.n2.1 c.n2.2, hw2]
            refine ⟨?_, rfl⟩
            have e3 : seenK ([wRej, Lib.itoa w.seen] ++ w.counts.map Lib.itoa) ([wRej, Lib.itoa w.seen] ++ w.counts.map Lib.itoa).length = w.seen := by
              unfold seenK
              rw [if_neg (by simp)]
              exact num30_itoa c.n1.1 c.n1.2
            have e4 : countsK ([wRej, Lib.itoa w.seen] ++ w.counts.map Lib.itoa) ([wRej, Lib.itoa w.seen] ++ w.counts.map Lib.itoa).length = w.counts := by
              unfold countsK
              rw [List.take_length]
              exact counts_all c.n3
            rw [e3, e4]
            exact c.is.symm
          generalize parseL (rest.drop (m + 3)) = Z at n9 vok fit ⊢
          obtain ⟨zl, ze⟩ := Z
          refine PFun.call n9 ?_
          refine brP_split (fun g3 => ?_) (fun g3 => ?_)
          · have g3 : ze = 0 := by simpa using g3
            exact ⟨rfl, _, true, rfl, vok, fun w hw hk => ⟨(fit w hw hk).1, rfl⟩⟩
          · have g3 : ¬ ze = 0 := by simpa using g3
            exact ⟨rfl, _, false, rfl, vok, fun w hw hk => absurd (fit w hw hk).2 g3⟩
      · rw [w3] at h
        have h := of_decide_eq_false h
        have hB : Fst (isBar rest) b := by
          rcases hq with ⟨h3, h4⟩ | h3
          · refine .inl ⟨h3, fun j => ?_⟩
            by_cases e : j < i
            · exact h4 j e
            · rw [Bool.eq_false_iff]; intro hb; have := isBar_room hb; omega
          · exact .inr h3
        refine brP_split (fun g1 => ?_) (fun g1 => ?_)
        · have g1 := of_decide_eq_true g1
          refine ⟨rfl, ⟨3, 0, 0, seenK ws ws.length, countsK ws ws.length, 0, .zero⟩, false, rfl, ⟨z 3 (by decide) (by decide), z 0 (by decide) (by decide), z 0 (by decide) (by decide), seenK_r _ _, countsK_r _ _, z 0 (by decide) (by decide), hz, by have := countsK_len ws ws.length; show (countsK ws ws.length).length ≤ 1000000; omega, n0, n0⟩, fun w hw hk => ?_⟩
          obtain ⟨way, c⟩ := hC w hw hk
          rw [hrest, c.rest] at hB
          have := bar_first (itoa_out c.n2.1 (.inr (by decide))) way hB
          omega
        have g1 := of_decide_eq_false g1
        refine brP_split (fun g2 => ?_) (fun g2 => ?_)
        · have g2 : ws.length < 2 := by have := of_decide_eq_true g2; rw [List.length_map] at this; omega
          refine ⟨rfl, ⟨3, 0, 0, seenK ws ws.length, countsK ws ws.length, 0, .zero⟩, false, rfl, ⟨z 3 (by decide) (by decide), z 0 (by decide) (by decide), z 0 (by decide) (by decide), seenK_r _ _, countsK_r _ _, z 0 (by decide) (by decide), hz, by have := countsK_len ws ws.length; show (countsK ws ws.length).length ≤ 1000000; omega, n0, n0⟩, fun w hw hk => ?_⟩
          obtain ⟨way, c⟩ := hC w hw hk
          have := congrArg List.length (hws.symm.trans c.words)
          simp at this; omega
        obtain ⟨m, hm, hmr⟩ : ∃ m : Nat, b = m ∧ m + 3 ≤ rest.length := by
          rcases hB with ⟨e, _⟩ | ⟨m, e, hb, _⟩
          · omega
          · exact ⟨m, e, isBar_room hb⟩
        subst hm
        have wm : IntKind.i64.wrap ((m : Int) + 3) = ((m + 3 : Nat) : Int) := by rw [wrap_in (by unfold R64; omega)]; omega
        refine ⟨by show cutOk rest.length none (some (m : Int)); unfold cutOk; omega, ?_⟩
        refine PFun.call (rnum_c (rest.take m) (by rw [List.length_take]; omega)) ?_
        refine ⟨by rw [wm]; show cutOk rest.length (some ((m + 3 : Nat) : Int)) none; unfold cutOk; omega, ?_⟩
        have n9 : PFun Tryz.prog 52 [sv' (cutFrom (cutTo rest none) (some (IntKind.i64.wrap ((m : Int) + 3))))] [] (.tup [(parseL (rest.drop (m + 3))).1.v, iv (parseL (rest.drop (m + 3))).2]) [] := by
          rw [wm]; exact parse18_c (rest.drop (m + 3)) (by rw [List.length_drop]; omega)
        have pok' := parseL_ok (rest.drop (m + 3))
        have vok : Vd.ok ⟨3, 0, 0, seenK ws ws.length, countsK ws ws.length, num30 (rest.take m), (parseL (rest.drop (m + 3))).1⟩ := ⟨z 3 (by decide) (by decide), z 0 (by decide) (by decide), z 0 (by decide) (by decide), seenK_r _ _, countsK_r _ _, num30_r _, pok'.1, by have := countsK_len ws ws.length; show (countsK ws ws.length).length ≤ 1000000; omega, Nat.le_trans pok'.2.1 (by decide), Nat.le_trans pok'.2.2 (by decide)⟩
        have fit : ∀ w, putV w = (s, 0) → w.kind = 3 → (⟨3, 0, 0, seenK ws ws.length, countsK ws ws.length, num30 (rest.take m), (parseL (rest.drop (m + 3))).1⟩ : Vd) = w ∧ (parseL (rest.drop (m + 3))).2 = 0 := fun w hw hk => by
          obtain ⟨way, c⟩ := hC w hw hk
          have hB' := hB
          rw [hrest, c.rest] at hB'
          have hmm := bar_first (itoa_out c.n2.1 (.inr (by decide))) way hB'
          have hmm : m = (Lib.itoa w.what).length := by omega
          have hw2 := hws.symm.trans c.words
          have e1 : rest.take m = Lib.itoa w.what := by rw [hrest, c.rest, hmm, List.append_assoc, List.take_left' rfl]
          have e2 : rest.drop (m + 3) = way := by rw [hrest, c.rest, hmm, List.drop_left' (by simp)]
          rw [e1, e2, c.lasso, num30_itoa c.n2.1 c.n2.2, hw2]
          refine ⟨?_, rfl⟩
          have e3 : seenK ([wRej, Lib.itoa w.seen] ++ w.counts.map Lib.itoa) ([wRej, Lib.itoa w.seen] ++ w.counts.map Lib.itoa).length = w.seen := by
            unfold seenK
            rw [if_neg (by simp)]
            exact num30_itoa c.n1.1 c.n1.2
          have e4 : countsK ([wRej, Lib.itoa w.seen] ++ w.counts.map Lib.itoa) ([wRej, Lib.itoa w.seen] ++ w.counts.map Lib.itoa).length = w.counts := by
            unfold countsK
            rw [List.take_length]
            exact counts_all c.n3
          rw [e3, e4]
          exact c.is.symm
        generalize parseL (rest.drop (m + 3)) = Z at n9 vok fit ⊢
        obtain ⟨zl, ze⟩ := Z
        refine PFun.call n9 ?_
        refine brP_split (fun g3 => ?_) (fun g3 => ?_)
        · have g3 : ze = 0 := by simpa using g3
          exact ⟨rfl, _, true, rfl, vok, fun w hw hk => ⟨(fit w hw hk).1, rfl⟩⟩
        · have g3 : ¬ ze = 0 := by simpa using g3
          exact ⟨rfl, _, false, rfl, vok, fun w hw hk => absurd (fit w hw hk).2 g3⟩
end Go.Proofs.YtblnfodnkacbbaaGreatDoor.Q

namespace Go.Proofs.YtblnfodnkacbbaaGreatDoor.Q
open Go.RowKit
theorem parseV_at {v : Vd} {s : Str} (h : putV v = (s, 0)) : parseV s = (v, 0) := by
  have := parseV_put (v := v) (by rw [h])
  rw [h] at this; exact this
theorem parseV_bad {s : Str} (h : ∀ v, putV v ≠ (s, 0)) : parseV s = (.zero, 2) := by
  rcases parseV_cases s with ⟨v, _, h2⟩ | h2
  · exact absurd h2 (h v)
  · exact h2
theorem putV_shape {v : Vd} {s : Str} (h : putV v = (s, 0)) : (∃ b c, Lib.split s [32] = [wErr, b, c] ∧ v = ⟨1, num30 b, num30 c, 0, [], 0, .zero⟩) ∨ (∃ b, Lib.split s [32] = [wAcc, b] ∧ v = ⟨2, 0, 0, num30 b, [], 0, .zero⟩) ∨ (∃ b, Lib.split s [32] = [wUnk, b] ∧ v = ⟨4, 0, 0, num30 b, [], 0, .zero⟩) ∨ (v.kind = 3 ∧ ∃ r, Lib.split s [32] = wRej :: r) := by
  unfold putV at h
  split at h
  · cases h
  rename_i h0
  simp only [Bool.or_eq_true, Bool.not_eq_true', not_or, Bool.not_eq_false] at h0
  obtain ⟨hp, hn⟩ := h0
  obtain ⟨n1, n2, n3, n4, n5, n6⟩ := nums_in hn
  have sp : ∀ {n : Int}, 0 ≤ n → (32 : UInt8) ∉ Lib.itoa n := fun h => itoa_out h (.inl (by decide))
  split at h
  · rename_i hk
    injection h with h _
    subst h
    unfold isPlainS at hp
    rw [if_pos hk] at hp
    simp only [Bool.and_eq_true, decide_eq_true_eq] at hp
    obtain ⟨l1, l2, l3⟩ := lists_nil hp.1
    refine .inl ⟨Lib.itoa v.err, Lib.itoa v.at', sp_words (by simp) fun w hw => by
      simp only [List.mem_cons, List.not_mem_nil, or_false] at hw
      rcases hw with rfl | rfl | rfl
      · decide
      · exact sp n3.1
      · exact sp n2.1, ?_⟩
    rw [num30_itoa n3.1 n3.2, num30_itoa n2.1 n2.2]
    obtain ⟨k, e, a, s, c, w, y⟩ := v
    dsimp only at *
    rw [hk, hp.2, l1, l2, l3]
  rename_i hk1
  split at h
  · rename_i hk
    injection h with h _
    subst h
    unfold isPlainS at hp
    rw [if_neg hk1, if_pos (.inl hk)] at hp
    simp only [Bool.and_eq_true] at hp
    obtain ⟨l1, l2, l3⟩ := lists_nil hp.1
    have hf := hp.2
    unfold plainErr at hf
    simp only [Bool.and_eq_true, decide_eq_true_eq] at hf
    refine .inr (.inl ⟨Lib.itoa v.seen, sp_words (by simp) fun w hw => by
      simp only [List.mem_cons, List.not_mem_nil, or_false] at hw
      rcases hw with rfl | rfl
      · decide
      · exact sp n1.1, ?_⟩)
    rw [num30_itoa n1.1 n1.2]
    obtain ⟨k, e, a, s, c, w, y⟩ := v
    dsimp only at *
    rw [hk, hf.1, hf.2, l1, l2, l3]
  rename_i hk2
  split at h
  · rename_i hk
    injection h with h _
    subst h
    unfold isPlainS at hp
    rw [if_neg hk1, if_pos (.inr hk)] at hp
    simp only [Bool.and_eq_true] at hp
    obtain ⟨l1, l2, l3⟩ := lists_nil hp.1
    have hf := hp.2
    unfold plainErr at hf
    simp only [Bool.and_eq_true, decide_eq_true_eq] at hf
    refine .inr (.inr (.inl ⟨Lib.itoa v.seen, sp_words (by simp) fun w hw => by
      simp only [List.mem_cons, List.not_mem_nil, or_false] at hw
      rcases hw with rfl | rfl
      · decide
      · exact sp n1.1, ?_⟩))
    rw [num30_itoa n1.1 n1.2]
    obtain ⟨k, e, a, s, c, w, y⟩ := v
    dsimp only at *
    rw [hk, hf.1, hf.2, l1, l2, l3]
  rename_i hk4
  split at h
  · rename_i h1; injection h with _ h; exact absurd h h1
  injection h with h _
  have hk : v.kind = 3 := by
    unfold isPlainS at hp
    rw [if_neg hk1, if_neg (by omega)] at hp
    split at hp
    · rename_i hk; exact hk
    · cases hp
  refine .inr (.inr (.inr ⟨hk, ?_⟩))
  have e : Lib.join (rejWords v (putL v.way).1) [32] = wRej ++ [32] ++ Lib.join (Lib.itoa v.seen :: (v.counts.map Lib.itoa ++ [[58], Lib.itoa v.what, [124], (putL v.way).1])) [32] := by
    show Lib.join (wRej :: Lib.itoa v.seen :: (v.counts.map Lib.itoa ++ [[58], Lib.itoa v.what, [124], (putL v.way).1])) [32] = _
    rw [join_two]
  rw [← h, e, split_first (by decide) (first_one (by decide))]
  exact ⟨_, rfl⟩
section
variable [Amb]
theorem rparse_c (s : Str) (hs : s.length ≤ 900000) : PFun Tryz.prog 10 [sv' s] [] (.tup [(parseV s).1.v, iv (parseV s).2]) [] := by
  have out : ∀ {x : Vd × Int}, parseV s = x → V.tup [x.1.v, iv x.2] = V.tup [(parseV s).1.v, iv (parseV s).2] := fun h => by rw [h]
  have hl : ∀ w ∈ Lib.split s [32], w.length ≤ 1048576 := fun w hw => by
    have := split_len hw
    omega
  have hsp := rwords_c s (by omega)
  have hrj := rreject_c s hs
  have z : ∀ n : Int, 0 ≤ n → n ≤ 4 → R64 n := fun n h1 h2 => by unfold R64; omega
  have hz : Ls.zero.ok := ⟨(fun p h => absurd h (by simp [Ls.zero])), (fun p h => absurd h (by simp [Ls.zero])), z 0 (by decide) (by decide)⟩
  have n0 : (0 : Nat) ≤ 1073741824 := by decide
  have okE : ∀ b c, Vd.ok ⟨1, num30 b, num30 c, 0, [], 0, .zero⟩ := fun b c => ⟨z 1 (by decide) (by decide), num30_r _, num30_r _, z 0 (by decide) (by decide), (fun n h => absurd h (by simp)), z 0 (by decide) (by decide), hz, by simp, n0, n0⟩
  have okA : ∀ b, Vd.ok ⟨2, 0, 0, num30 b, [], 0, .zero⟩ := fun b => ⟨z 2 (by decide) (by decide), z 0 (by decide) (by decide), z 0 (by decide) (by decide), num30_r _, (fun n h => absurd h (by simp)), z 0 (by decide) (by decide), hz, by simp, n0, n0⟩
  have okU : ∀ b, Vd.ok ⟨4, 0, 0, num30 b, [], 0, .zero⟩ := fun b => ⟨z 4 (by decide) (by decide), z 0 (by decide) (by decide), z 0 (by decide) (by decide), num30_r _, (fun n h => absurd h (by simp)), z 0 (by decide) (by decide), hz, by simp, n0, n0⟩
  have hne : Lib.split s [32] ≠ [] := by
    unfold Lib.split
    cases Lib.count s [32] with
    | zero => rw [Lib.splitK]; simp
    | succ k => rw [Lib.splitK]; split <;> simp
  obtain ⟨ws, hsp0⟩ : ∃ ws, Lib.split s [32] = ws := ⟨_, rfl⟩
  rw [hsp0] at hsp hl hne
  refine fn_sem pok 83 0 Tryz.func10 (by kernel_rfl) rfl rfl rfl rfl ?_
  refine SWp.go pok (by kernel_rfl) ?_
  refine PFun.call hsp ?_
  match ws, hl, hne, hsp0 with
  | [], _, hne, _ => exact absurd rfl hne
  | a :: r, hl, _, hsp0 =>
    by_cases aErr : a = wErr
    · subst aErr
      match r, hl, hsp0 with
      | [], hl, hsp0 =>
        refine PIdx.map (x := wErr) (i := 0) rfl ?_
        refine PIdx.map (x := wErr) (i := 0) rfl ?_
        refine PIdx.map (x := wErr) (i := 0) rfl ?_
        have def3 : ∀ w, putV w = (s, 0) → w.kind = 3 := fun w hw => by
            rcases putV_shape hw with ⟨_, _, h, _⟩ | ⟨_, h, _⟩ | ⟨_, h, _⟩ | ⟨h, _⟩
            · exact absurd (hsp0.symm.trans h) (by simp [wErr, wAcc, wUnk, wRej])
            · exact absurd (hsp0.symm.trans h) (by simp [wErr, wAcc, wUnk, wRej])
            · exact absurd (hsp0.symm.trans h) (by simp [wErr, wAcc, wUnk, wRej])
            · exact h
        refine PCalls.mono hrj ?_
        rintro r' h' ⟨rfl, v, b', rfl, vok, hfit⟩
        cases b' with
        | false =>
          exact fin1 (out (x := (.zero, 2)) (parseV_bad fun w hw => by have := (hfit w hw (def3 w hw)).2; cases this))
        | true =>
          have hall : ∀ w, putV w = (s, 0) → w = v := fun w hw => (hfit w hw (def3 w hw)).1.symm
          have bad : putV v ≠ (s, 0) → parseV s = (.zero, 2) := fun h => parseV_bad fun w hw => h (by rw [← hall w hw]; exact hw)
          refine PFun.call (rput_c v vok) ?_
          refine brP_split (fun k1 => ?_) (fun k1 => ?_)
          · exact fin1 (out (x := (.zero, 2)) (bad fun e => by rw [e] at k1; cases k1))
          refine brP_split (fun k2 => ?_) (fun k2 => ?_)
          · exact fin1 (out (x := (.zero, 2)) (bad fun e => by rw [e] at k2; simp at k2))
          · refine fin1 (out (x := (v, 0)) (parseV_at ?_))
            simp at k1 k2
            exact Prod.ext k2 k1
      | [b], hl, hsp0 =>
        refine PIdx.map (x := wErr) (i := 0) rfl ?_
        refine PIdx.map (x := wErr) (i := 0) rfl ?_
        refine PIdx.map (x := wErr) (i := 0) rfl ?_
        have def3 : ∀ w, putV w = (s, 0) → w.kind = 3 := fun w hw => by
            rcases putV_shape hw with ⟨_, _, h, _⟩ | ⟨_, h, _⟩ | ⟨_, h, _⟩ | ⟨h, _⟩
            · exact absurd (hsp0.symm.trans h) (by simp [wErr, wAcc, wUnk, wRej])
            · exact absurd (hsp0.symm.trans h) (by simp [wErr, wAcc, wUnk, wRej])
            · exact absurd (hsp0.symm.trans h) (by simp [wErr, wAcc, wUnk, wRej])
            · exact h
        refine PCalls.mono hrj ?_
        rintro r' h' ⟨rfl, v, b', rfl, vok, hfit⟩
        cases b' with
        | false =>
          exact fin1 (out (x := (.zero, 2)) (parseV_bad fun w hw => by have := (hfit w hw (def3 w hw)).2; cases this))
        | true =>
          have hall : ∀ w, putV w = (s, 0) → w = v := fun w hw => (hfit w hw (def3 w hw)).1.symm
          have bad : putV v ≠ (s, 0) → parseV s = (.zero, 2) := fun h => parseV_bad fun w hw => h (by rw [← hall w hw]; exact hw)
          refine PFun.call (rput_c v vok) ?_
          refine brP_split (fun k1 => ?_) (fun k1 => ?_)
          · exact fin1 (out (x := (.zero, 2)) (bad fun e => by rw [e] at k1; cases k1))
          refine brP_split (fun k2 => ?_) (fun k2 => ?_)
          · exact fin1 (out (x := (.zero, 2)) (bad fun e => by rw [e] at k2; simp at k2))
          · refine fin1 (out (x := (v, 0)) (parseV_at ?_))
            simp at k1 k2
            exact Prod.ext k2 k1
      | [b, c], hl, hsp0 =>
        refine PIdx.map (x := wErr) (i := 0) rfl ?_
        refine PIdx.map (x := b) (i := 1) rfl ?_
        refine ⟨_, _, rnum_c b (hl b (by simp)), ?_⟩
        refine PIdx.map (x := c) (i := 2) rfl ?_
        refine ⟨_, _, rnum_c c (hl c (by simp)), ?_⟩
        have hall : ∀ w, putV w = (s, 0) → w = ⟨1, num30 b, num30 c, 0, [], 0, .zero⟩ := fun w hw => by
            rcases putV_shape hw with ⟨b', c', h, e⟩ | ⟨b', h, e⟩ | ⟨b', h, e⟩ | ⟨_, r', h⟩
            · have := hsp0.symm.trans h
              injection this with _ this
              injection this with e1 this
              injection this with e2 _
              subst e1; subst e2; exact e
            · exact absurd (hsp0.symm.trans h) (by simp [wErr, wAcc, wUnk, wRej])
            · exact absurd (hsp0.symm.trans h) (by simp [wErr, wAcc, wUnk, wRej])
            · exact absurd (hsp0.symm.trans h) (by simp [wErr, wAcc, wUnk, wRej])
        have bad : putV ⟨1, num30 b, num30 c, 0, [], 0, .zero⟩ ≠ (s, 0) → parseV s = (.zero, 2) := fun h => parseV_bad fun w hw => h (by rw [← hall w hw]; exact hw)
        refine PFun.call (rput_c ⟨1, num30 b, num30 c, 0, [], 0, .zero⟩ (okE b c)) ?_
        refine brP_split (fun k1 => ?_) (fun k1 => ?_)
        · exact fin1 (out (x := (.zero, 2)) (bad fun e => by rw [e] at k1; cases k1))
        refine brP_split (fun k2 => ?_) (fun k2 => ?_)
        · exact fin1 (out (x := (.zero, 2)) (bad fun e => by rw [e] at k2; simp at k2))
        · refine fin1 (out (x := (⟨1, num30 b, num30 c, 0, [], 0, .zero⟩, 0)) (parseV_at ?_))
          simp at k1 k2
          exact Prod.ext k2 k1
      | b :: c :: d :: r, hl, hsp0 =>
        refine PIdx.map (x := wErr) (i := 0) rfl ?_
        refine PIdx.map (x := wErr) (i := 0) rfl ?_
        refine PIdx.map (x := wErr) (i := 0) rfl ?_
        have def3 : ∀ w, putV w = (s, 0) → w.kind = 3 := fun w hw => by
            rcases putV_shape hw with ⟨_, _, h, _⟩ | ⟨_, h, _⟩ | ⟨_, h, _⟩ | ⟨h, _⟩
            · exact absurd (hsp0.symm.trans h) (by simp [wErr, wAcc, wUnk, wRej])
            · exact absurd (hsp0.symm.trans h) (by simp [wErr, wAcc, wUnk, wRej])
            · exact absurd (hsp0.symm.trans h) (by simp [wErr, wAcc, wUnk, wRej])
            · exact h
        refine PCalls.mono hrj ?_
        rintro r' h' ⟨rfl, v, b', rfl, vok, hfit⟩
        cases b' with
        | false =>
          exact fin1 (out (x := (.zero, 2)) (parseV_bad fun w hw => by have := (hfit w hw (def3 w hw)).2; cases this))
        | true =>
          have hall : ∀ w, putV w = (s, 0) → w = v := fun w hw => (hfit w hw (def3 w hw)).1.symm
          have bad : putV v ≠ (s, 0) → parseV s = (.zero, 2) := fun h => parseV_bad fun w hw => h (by rw [← hall w hw]; exact hw)
          refine PFun.call (rput_c v vok) ?_
          refine brP_split (fun k1 => ?_) (fun k1 => ?_)
          · exact fin1 (out (x := (.zero, 2)) (bad fun e => by rw [e] at k1; cases k1))
          refine brP_split (fun k2 => ?_) (fun k2 => ?_)
          · exact fin1 (out (x := (.zero, 2)) (bad fun e => by rw [e] at k2; simp at k2))
          · refine fin1 (out (x := (v, 0)) (parseV_at ?_))
            simp at k1 k2
            exact Prod.ext k2 k1
    by_cases aAcc : a = wAcc
    · subst aAcc
      match r, hl, hsp0 with
      | [], hl, hsp0 =>
        refine PIdx.map (x := wAcc) (i := 0) rfl ?_
        refine PIdx.map (x := wAcc) (i := 0) rfl ?_
        refine PIdx.map (x := wAcc) (i := 0) rfl ?_
        have def3 : ∀ w, putV w = (s, 0) → w.kind = 3 := fun w hw => by
            rcases putV_shape hw with ⟨_, _, h, _⟩ | ⟨_, h, _⟩ | ⟨_, h, _⟩ | ⟨h, _⟩
            · exact absurd (hsp0.symm.trans h) (by simp [wErr, wAcc, wUnk, wRej])
            · exact absurd (hsp0.symm.trans h) (by simp [wErr, wAcc, wUnk, wRej])
            · exact absurd (hsp0.symm.trans h) (by simp [wErr, wAcc, wUnk, wRej])
            · exact h
        refine PCalls.mono hrj ?_
        rintro r' h' ⟨rfl, v, b', rfl, vok, hfit⟩
        cases b' with
        | false =>
          exact fin1 (out (x := (.zero, 2)) (parseV_bad fun w hw => by have := (hfit w hw (def3 w hw)).2; cases this))
        | true =>
          have hall : ∀ w, putV w = (s, 0) → w = v := fun w hw => (hfit w hw (def3 w hw)).1.symm
          have bad : putV v ≠ (s, 0) → parseV s = (.zero, 2) := fun h => parseV_bad fun w hw => h (by rw [← hall w hw]; exact hw)
          refine PFun.call (rput_c v vok) ?_
          refine brP_split (fun k1 => ?_) (fun k1 => ?_)
          · exact fin1 (out (x := (.zero, 2)) (bad fun e => by rw [e] at k1; cases k1))
          refine brP_split (fun k2 => ?_) (fun k2 => ?_)
          · exact fin1 (out (x := (.zero, 2)) (bad fun e => by rw [e] at k2; simp at k2))
          · refine fin1 (out (x := (v, 0)) (parseV_at ?_))
            simp at k1 k2
            exact Prod.ext k2 k1
      | [b], hl, hsp0 =>
        refine PIdx.map (x := wAcc) (i := 0) rfl ?_
        refine PIdx.map (x := wAcc) (i := 0) rfl ?_
        refine PIdx.map (x := b) (i := 1) rfl ?_
        refine PFun.call (rnum_c b (hl b (by simp))) ?_
        have hall : ∀ w, putV w = (s, 0) → w = ⟨2, 0, 0, num30 b, [], 0, .zero⟩ := fun w hw => by
            rcases putV_shape hw with ⟨b', c', h, e⟩ | ⟨b', h, e⟩ | ⟨b', h, e⟩ | ⟨_, r', h⟩
            · exact absurd (hsp0.symm.trans h) (by simp [wErr, wAcc, wUnk, wRej])
            · have := hsp0.symm.trans h
              injection this with _ this
              injection this with e1 _
              subst e1; exact e
            · exact absurd (hsp0.symm.trans h) (by simp [wErr, wAcc, wUnk, wRej])
            · exact absurd (hsp0.symm.trans h) (by simp [wErr, wAcc, wUnk, wRej])
        have bad : putV ⟨2, 0, 0, num30 b, [], 0, .zero⟩ ≠ (s, 0) → parseV s = (.zero, 2) := fun h => parseV_bad fun w hw => h (by rw [← hall w hw]; exact hw)
        refine PFun.call (rput_c ⟨2, 0, 0, num30 b, [], 0, .zero⟩ (okA b)) ?_
        refine brP_split (fun k1 => ?_) (fun k1 => ?_)
        · exact fin1 (out (x := (.zero, 2)) (bad fun e => by rw [e] at k1; cases k1))
        refine brP_split (fun k2 => ?_) (fun k2 => ?_)
        · exact fin1 (out (x := (.zero, 2)) (bad fun e => by rw [e] at k2; simp at k2))
        · refine fin1 (out (x := (⟨2, 0, 0, num30 b, [], 0, .zero⟩, 0)) (parseV_at ?_))
          simp at k1 k2
          exact Prod.ext k2 k1
      | [b, c], hl, hsp0 =>
        refine PIdx.map (x := wAcc) (i := 0) rfl ?_
        refine PIdx.map (x := wAcc) (i := 0) rfl ?_
        refine PIdx.map (x := wAcc) (i := 0) rfl ?_
        have def3 : ∀ w, putV w = (s, 0) → w.kind = 3 := fun w hw => by
            rcases putV_shape hw with ⟨_, _, h, _⟩ | ⟨_, h, _⟩ | ⟨_, h, _⟩ | ⟨h, _⟩
            · exact absurd (hsp0.symm.trans h) (by simp [wErr, wAcc, wUnk, wRej])
            · exact absurd (hsp0.symm.trans h) (by simp [wErr, wAcc, wUnk, wRej])
            · exact absurd (hsp0.symm.trans h) (by simp [wErr, wAcc, wUnk, wRej])
            · exact h
        refine PCalls.mono hrj ?_
        rintro r' h' ⟨rfl, v, b', rfl, vok, hfit⟩
        cases b' with
        | false =>
          exact fin1 (out (x := (.zero, 2)) (parseV_bad fun w hw => by have := (hfit w hw (def3 w hw)).2; cases this))
        | true =>
          have hall : ∀ w, putV w = (s, 0) → w = v := fun w hw => (hfit w hw (def3 w hw)).1.symm
          have bad : putV v ≠ (s, 0) → parseV s = (.zero, 2) := fun h => parseV_bad fun w hw => h (by rw [← hall w hw]; exact hw)
          refine PFun.call (rput_c v vok) ?_
          refine brP_split (fun k1 => ?_) (fun k1 => ?_)
          · exact fin1 (out (x := (.zero, 2)) (bad fun e => by rw [e] at k1; cases k1))
          refine brP_split (fun k2 => ?_) (fun k2 => ?_)
          · exact fin1 (out (x := (.zero, 2)) (bad fun e => by rw [e] at k2; simp at k2))
          · refine fin1 (out (x := (v, 0)) (parseV_at ?_))
            simp at k1 k2
            exact Prod.ext k2 k1
      | b :: c :: d :: r, hl, hsp0 =>
        refine PIdx.map (x := wAcc) (i := 0) rfl ?_
        refine PIdx.map (x := wAcc) (i := 0) rfl ?_
        refine PIdx.map (x := wAcc) (i := 0) rfl ?_
        have def3 : ∀ w, putV w = (s, 0) → w.kind = 3 := fun w hw => by
            rcases putV_shape hw with ⟨_, _, h, _⟩ | ⟨_, h, _⟩ | ⟨_, h, _⟩ | ⟨h, _⟩
            · exact absurd (hsp0.symm.trans h) (by simp [wErr, wAcc, wUnk, wRej])
            · exact absurd (hsp0.symm.trans h) (by simp [wErr, wAcc, wUnk, wRej])
            · exact absurd (hsp0.symm.trans h) (by simp [wErr, wAcc, wUnk, wRej])
            · exact h
        refine PCalls.mono hrj ?_
        rintro r' h' ⟨rfl, v, b', rfl, vok, hfit⟩
        cases b' with
        | false =>
          exact fin1 (out (x := (.zero, 2)) (parseV_bad fun w hw => by have := (hfit w hw (def3 w hw)).2; cases this))
        | true =>
          have hall : ∀ w, putV w = (s, 0) → w = v := fun w hw => (hfit w hw (def3 w hw)).1.symm
          have bad : putV v ≠ (s, 0) → parseV s = (.zero, 2) := fun h => parseV_bad fun w hw => h (by rw [← hall w hw]; exact hw)
          refine PFun.call (rput_c v vok) ?_
          refine brP_split (fun k1 => ?_) (fun k1 => ?_)
          · exact fin1 (out (x := (.zero, 2)) (bad fun e => by rw [e] at k1; cases k1))
          refine brP_split (fun k2 => ?_) (fun k2 => ?_)
          · exact fin1 (out (x := (.zero, 2)) (bad fun e => by rw [e] at k2; simp at k2))
          · refine fin1 (out (x := (v, 0)) (parseV_at ?_))
            simp at k1 k2
            exact Prod.ext k2 k1
    by_cases aUnk : a = wUnk
    · subst aUnk
      match r, hl, hsp0 with
      | [], hl, hsp0 =>
        refine PIdx.map (x := wUnk) (i := 0) rfl ?_
        refine PIdx.map (x := wUnk) (i := 0) rfl ?_
        refine PIdx.map (x := wUnk) (i := 0) rfl ?_
        have def3 : ∀ w, putV w = (s, 0) → w.kind = 3 := fun w hw => by
            rcases putV_shape hw with ⟨_, _, h, _⟩ | ⟨_, h, _⟩ | ⟨_, h, _⟩ | ⟨h, _⟩
            · exact absurd (hsp0.symm.trans h) (by simp [wErr, wAcc, wUnk, wRej])
            · exact absurd (hsp0.symm.trans h) (by simp [wErr, wAcc, wUnk, wRej])
            · exact absurd (hsp0.symm.trans h) (by simp [wErr, wAcc, wUnk, wRej])
            · exact h
        refine PCalls.mono hrj ?_
        rintro r' h' ⟨rfl, v, b', rfl, vok, hfit⟩
        cases b' with
        | false =>
          exact fin1 (out (x := (.zero, 2)) (parseV_bad fun w hw => by have := (hfit w hw (def3 w hw)).2; cases this))
        | true =>
          have hall : ∀ w, putV w = (s, 0) → w = v := fun w hw => (hfit w hw (def3 w hw)).1.symm
          have bad : putV v ≠ (s, 0) → parseV s = (.zero, 2) := fun h => parseV_bad fun w hw => h (by rw [← hall w hw]; exact hw)
          refine PFun.call (rput_c v vok) ?_
          refine brP_split (fun k1 => ?_) (fun k1 => ?_)
          · exact fin1 (out (x := (.zero, 2)) (bad fun e => by rw [e] at k1; cases k1))
          refine brP_split (fun k2 => ?_) (fun k2 => ?_)
          · exact fin1 (out (x := (.zero, 2)) (bad fun e => by rw [e] at k2; simp at k2))
          · refine fin1 (out (x := (v, 0)) (parseV_at ?_))
            simp at k1 k2
            exact Prod.ext k2 k1
      | [b], hl, hsp0 =>
        refine PIdx.map (x := wUnk) (i := 0) rfl ?_
        refine PIdx.map (x := wUnk) (i := 0) rfl ?_
        refine PIdx.map (x := wUnk) (i := 0) rfl ?_
        refine PIdx.map (x := b) (i := 1) rfl ?_
        refine PFun.call (rnum_c b (hl b (by simp))) ?_
        have hall : ∀ w, putV w = (s, 0) → w = ⟨4, 0, 0, num30 b, [], 0, .zero⟩ := fun w hw => by
            rcases putV_shape hw with ⟨b', c', h, e⟩ | ⟨b', h, e⟩ | ⟨b', h, e⟩ | ⟨_, r', h⟩
            · exact absurd (hsp0.symm.trans h) (by simp [wErr, wAcc, wUnk, wRej])
            · exact absurd (hsp0.symm.trans h) (by simp [wErr, wAcc, wUnk, wRej])
            · have := hsp0.symm.trans h
              injection this with _ this
              injection this with e1 _
              subst e1; exact e
            · exact absurd (hsp0.symm.trans h) (by simp [wErr, wAcc, wUnk, wRej])
        have bad : putV ⟨4, 0, 0, num30 b, [], 0, .zero⟩ ≠ (s, 0) → parseV s = (.zero, 2) := fun h => parseV_bad fun w hw => h (by rw [← hall w hw]; exact hw)
        refine PFun.call (rput_c ⟨4, 0, 0, num30 b, [], 0, .zero⟩ (okU b)) ?_
        refine brP_split (fun k1 => ?_) (fun k1 => ?_)
        · exact fin1 (out (x := (.zero, 2)) (bad fun e => by rw [e] at k1; cases k1))
        refine brP_split (fun k2 => ?_) (fun k2 => ?_)
        · exact fin1 (out (x := (.zero, 2)) (bad fun e => by rw [e] at k2; simp at k2))
        · refine fin1 (out (x := (⟨4, 0, 0, num30 b, [], 0, .zero⟩, 0)) (parseV_at ?_))
          simp at k1 k2
          exact Prod.ext k2 k1
      | [b, c], hl, hsp0 =>
        refine PIdx.map (x := wUnk) (i := 0) rfl ?_
        refine PIdx.map (x := wUnk) (i := 0) rfl ?_
        refine PIdx.map (x := wUnk) (i := 0) rfl ?_
        have def3 : ∀ w, putV w = (s, 0) → w.kind = 3 := fun w hw => by
            rcases putV_shape hw with ⟨_, _, h, _⟩ | ⟨_, h, _⟩ | ⟨_, h, _⟩ | ⟨h, _⟩
            · exact absurd (hsp0.symm.trans h) (by simp [wErr, wAcc, wUnk, wRej])
            · exact absurd (hsp0.symm.trans h) (by simp [wErr, wAcc, wUnk, wRej])
            · exact absurd (hsp0.symm.trans h) (by simp [wErr, wAcc, wUnk, wRej])
            · exact h
        refine PCalls.mono hrj ?_
        rintro r' h' ⟨rfl, v, b', rfl, vok, hfit⟩
        cases b' with
        | false =>
          exact fin1 (out (x := (.zero, 2)) (parseV_bad fun w hw => by have := (hfit w hw (def3 w hw)).2; cases this))
        | true =>
          have hall : ∀ w, putV w = (s, 0) → w = v := fun w hw => (hfit w hw (def3 w hw)).1.symm
          have bad : putV v ≠ (s, 0) → parseV s = (.zero, 2) := fun h => parseV_bad fun w hw => h (by rw [← hall w hw]; exact hw)
          refine PFun.call (rput_c v vok) ?_
          refine brP_split (fun k1 => ?_) (fun k1 => ?_)
          · exact fin1 (out (x := (.zero, 2)) (bad fun e => by rw [e] at k1; cases k1))
          refine brP_split (fun k2 => ?_) (fun k2 => ?_)
          · exact fin1 (out (x := (.zero, 2)) (bad fun e => by rw [e] at k2; simp at k2))
          · refine fin1 (out (x := (v, 0)) (parseV_at ?_))
            simp at k1 k2
            exact Prod.ext k2 k1
      | b :: c :: d :: r, hl, hsp0 =>
        refine PIdx.map (x := wUnk) (i := 0) rfl ?_
        refine PIdx.map (x := wUnk) (i := 0) rfl ?_
        refine PIdx.map (x := wUnk) (i := 0) rfl ?_
        have def3 : ∀ w, putV w = (s, 0) → w.kind = 3 := fun w hw => by
            rcases putV_shape hw with ⟨_, _, h, _⟩ | ⟨_, h, _⟩ | ⟨_, h, _⟩ | ⟨h, _⟩
            · exact absurd (hsp0.symm.trans h) (by simp [wErr, wAcc, wUnk, wRej])
            · exact absurd (hsp0.symm.trans h) (by simp [wErr, wAcc, wUnk, wRej])
            · exact absurd (hsp0.symm.trans h) (by simp [wErr, wAcc, wUnk, wRej])
            · exact h
        refine PCalls.mono hrj ?_
        rintro r' h' ⟨rfl, v, b', rfl, vok, hfit⟩
        cases b' with
        | false =>
          exact fin1 (out (x := (.zero, 2)) (parseV_bad fun w hw => by have := (hfit w hw (def3 w hw)).2; cases this))
        | true =>
          have hall : ∀ w, putV w = (s, 0) → w = v := fun w hw => (hfit w hw (def3 w hw)).1.symm
          have bad : putV v ≠ (s, 0) → parseV s = (.zero, 2) := fun h => parseV_bad fun w hw => h (by rw [← hall w hw]; exact hw)
          refine PFun.call (rput_c v vok) ?_
          refine brP_split (fun k1 => ?_) (fun k1 => ?_)
          · exact fin1 (out (x := (.zero, 2)) (bad fun e => by rw [e] at k1; cases k1))
          refine brP_split (fun k2 => ?_) (fun k2 => ?_)
          · exact fin1 (out (x := (.zero, 2)) (bad fun e => by rw [e] at k2; simp at k2))
          · refine fin1 (out (x := (v, 0)) (parseV_at ?_))
            simp at k1 k2
            exact Prod.ext k2 k1
    refine PIdx.map (x := a) (i := 0) rfl ?_
    refine brP_false (beq_eq_false_iff_ne.2 aErr) ?_
    refine PIdx.map (x := a) (i := 0) rfl ?_
    refine brP_false (beq_eq_false_iff_ne.2 aAcc) ?_
    refine PIdx.map (x := a) (i := 0) rfl ?_
    refine brP_false (beq_eq_false_iff_ne.2 aUnk) ?_
    have def3 : ∀ w, putV w = (s, 0) → w.kind = 3 := fun w hw => by
        rcases putV_shape hw with ⟨_, _, h, _⟩ | ⟨_, h, _⟩ | ⟨_, h, _⟩ | ⟨h, _⟩
        · have := hsp0.symm.trans h
          injection this with e _; exact absurd e aErr
        · have := hsp0.symm.trans h
          injection this with e _; exact absurd e aAcc
        · have := hsp0.symm.trans h
          injection this with e _; exact absurd e aUnk
        · exact h
    refine PCalls.mono hrj ?_
    rintro r' h' ⟨rfl, v, b', rfl, vok, hfit⟩
    cases b' with
    | false =>
      exact fin1 (out (x := (.zero, 2)) (parseV_bad fun w hw => by have := (hfit w hw (def3 w hw)).2; cases this))
    | true =>
      have hall : ∀ w, putV w = (s, 0) → w = v := fun w hw => (hfit w hw (def3 w hw)).1.symm
      have bad : putV v ≠ (s, 0) → parseV s = (.zero, 2) := fun h => parseV_bad fun w hw => h (by rw [← hall w hw]; exact hw)
      refine PFun.call (rput_c v vok) ?_
      refine brP_split (fun k1 => ?_) (fun k1 => ?_)
      · exact fin1 (out (x := (.zero, 2)) (bad fun e => by rw [e] at k1; cases k1))
      refine brP_split (fun k2 => ?_) (fun k2 => ?_)
      · exact fin1 (out (x := (.zero, 2)) (bad fun e => by rw [e] at k2; simp at k2))
      · refine fin1 (out (x := (v, 0)) (parseV_at ?_))
        simp at k1 k2
        exact Prod.ext k2 k1
end
end Go.Proofs.YtblnfodnkacbbaaGreatDoor.Q

namespace Go.Proofs.YtblnfodnkacbbaaGreatDoor.Q
open Go.RowKit
variable [Amb] [Vars]
theorem parseV_ok (s : Str) (hs : s.length ≤ 900000) : (parseV s).1.ok := by
  have e : parseV s = if putV (guessV s) = (s, 0) then (guessV s, 0) else (.zero, 2) := rfl
  rw [e]
  split
  · exact guess_ok s hs
  · exact zero_ok
theorem reportTexts_t (v : Vd) (s : Str) (hv : v.num) (hs : s.length ≤ maxLen) : PFun Tryz.prog 3 [v.v, sv' s] [] (.d (.bool true)) [] := by
  refine fn_sem pok 65 0 Tryz.func3 (by kernel_rfl) rfl rfl rfl rfl ?_
  refine SWp.go pok (by kernel_rfl) ?_
  refine PFun.call (small30_c v) ?_
  refine brP_split (fun h1 => ?_) (fun h1 => ?_)
  · refine PFun.call live30_ev ?_
    exact fin1 rfl
  have h1 : v.counts.length ≤ 20 ∧ v.way.stem.length ≤ 100 ∧ v.way.loop.length ≤ 100 := by
    simp at h1; exact ⟨h1.1.1, h1.1.2, h1.2⟩
  refine brP_split (fun h2 => ?_) (fun h2 => ?_)
  · refine PFun.call live30_ev ?_
    exact fin1 rfl
  have h2 : s.length ≤ 2000 := by simp at h2; omega
  have hok : v.ok := ⟨hv.1, hv.2.1, hv.2.2.1, hv.2.2.2.1, hv.2.2.2.2.1, hv.2.2.2.2.2.1, hv.2.2.2.2.2.2, by omega, by omega, by omega⟩
  have hs9 : s.length ≤ 900000 := by omega
  have hpo := parseV_ok s hs9
  refine PFun.call (put30_c v hok) ?_
  refine PFun.call (rput_c v hok) ?_
  refine PFun.call (parse30_c s hs9) ?_
  refine PFun.call (rparse_c s hs9) ?_
  refine brP_split (fun h3 => ?_) (fun h3 => ?_)
  rotate_left
  · simp at h3
  refine PFun.call (num30_c _) ?_
  refine brP_split (fun h4 => ?_) (fun h4 => ?_)
  rotate_left
  · simp at h4
  refine PFun.call (same30_c _ hpo) ?_
  refine PFun.call (num30_c _) ?_
  refine brP_split (fun h5 => ?_) (fun h5 => ?_)
  rotate_left
  · simp at h5
  refine PFun.call live30_ev ?_
  exact fin1 rfl
end Go.Proofs.YtblnfodnkacbbaaGreatDoor.Q
