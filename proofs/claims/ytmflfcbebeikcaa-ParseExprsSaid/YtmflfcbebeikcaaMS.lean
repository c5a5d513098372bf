/- The reference's scanner and its expressions, held against the program's; the law of parsed expressions. No condition. -/
import Derived.Test.YtmflfcbebeikcaaMK
import Derived.Test.YtmflfcbebeikcaaMN
import Derived.KernelRfl
import Derived.Test.YtmflfcbebeikcaaML
import Derived.Test.YtmflfcbebeikcaaMO
set_option linter.unusedVariables false
set_option linter.unusedSectionVars false
set_option linter.unnecessarySimpa false
set_option linter.unusedSimpArgs false
set_option maxRecDepth 100000
set_option maxHeartbeats 4000000
namespace Go.Proofs.Ytmflfcbebeikcaa.Q
open Go.RowKit
variable [Amb]
theorem class_letter (c : Int) : (classS c == 3) = ((decide (97 ≤ c) && decide (c ≤ 122)) || (decide (65 ≤ c) && decide (c ≤ 90))) := by
  have e : classS c = 3 ↔ (97 ≤ c ∧ c ≤ 122) ∨ (65 ≤ c ∧ c ≤ 90) := by
    unfold classS
    repeat' split
    all_goals omega
  rw [Bool.eq_iff_iff]
  simpa using e
theorem class_digit (c : Int) : (classS c == 4) = (decide (48 ≤ c) && decide (c ≤ 57)) := by
  have e : classS c = 4 ↔ (48 ≤ c ∧ c ≤ 57) := by
    unfold classS
    repeat' split
    all_goals omega
  rw [Bool.eq_iff_iff]
  simpa using e
theorem refLetter_c (c : Int) : PFun Try.prog 84 [.d (.int .u8 c)] [] (.d (.bool (classS c == 3))) [] := by
  rw [class_letter]
  refine fn_sem pok 17 0 Try.func84 (by kernel_rfl) rfl rfl rfl rfl ?_
  refine SWp.go pok (by kernel_rfl) ?_
  repeat' (refine brP_split (fun h => ?_) (fun h => ?_))
  all_goals
    refine fin1 (dbool ?_)
    simp only [ge_iff_le, decide_eq_true_eq, decide_eq_false_iff_not] at *
    simp [*]
    try omega
theorem refDigit_c (c : Int) : PFun Try.prog 85 [.d (.int .u8 c)] [] (.d (.bool (classS c == 4))) [] := by
  rw [class_digit]
  refine fn_sem pok 9 0 Try.func85 (by kernel_rfl) rfl rfl rfl rfl ?_
  refine SWp.go pok (by kernel_rfl) ?_
  repeat' (refine brP_split (fun h => ?_) (fun h => ?_))
  all_goals
    refine fin1 (dbool ?_)
    simp only [ge_iff_le, decide_eq_true_eq, decide_eq_false_iff_not] at *
    simp [*]
theorem refWords_c : PFun Try.prog 118 [] [] (.d (.sl (words.map scell))) [] := by
  refine fn_sem pok 2 0 Try.func118 (by kernel_rfl) rfl rfl rfl rfl ?_
  refine SWp.go pok (by kernel_rfl) ?_
  exact fin1 rfl
theorem refWord_c (s : Str) : PFun Try.prog 86 [sv' s] [] (.d (.bool (isWord s))) [] := by
  refine fn_sem pok 18 0 Try.func86 (by kernel_rfl) rfl rfl rfl rfl ?_
  refine SWp.go pok (by kernel_rfl) ?_
  refine PFun.call refWords_c ?_
  refine SWp.loop (fun k : Nat => k ≤ words.length ∧ (words.drop k).any (fun w => s == w) = isWord s) (fun k => ([(0, sv' s), (3, .d (.sl (words.map scell))), (4, iv k)], [])) (fun k => words.length - k) 0 ⟨Nat.zero_le _, rfl⟩ (Le.same ⟨rfl, rfl, rfl, trivial⟩) (fun k hk => ?_)
  obtain ⟨hj, hk⟩ := hk
  have hwl : words.length = 20 := rfl
  refine SWp.go pok (by kernel_rfl) ?_
  refine brP_split (fun h => ?_) (fun h => ?_)
  · have hlt : k < words.length := by simpa using h
    have hat : (words.drop k).any (fun w => s == w) = ((s == words[k]) || (words.drop (k + 1)).any (fun w => s == w)) := by rw [List.drop_eq_getElem_cons hlt]; rfl
    refine PIdx.map (get_at hlt) ?_
    refine brP_split (fun h3 => ?_) (fun h3 => ?_)
    · have h3 : (s == words[k]) = true := by rw [beq_iff_eq] at h3 ⊢; exact h3.symm
      exact fin1 (dbool (by rw [← hk, hat, h3]; rfl))
    · have h3 : (s == words[k]) = false := by rw [beq_eq_false_iff_ne] at h3 ⊢; exact fun e => h3 e.symm
      exact ⟨k + 1, ⟨hlt, by rw [← hk, hat, h3]; rfl⟩, by omega, Le.same ⟨rfl, rfl, sint (wrap_nat k (by omega)), trivial⟩⟩
  · have hk' : words.drop k = [] := List.drop_of_length_le (by simp at h; omega)
    exact fin1 (dbool (by rw [← hk, hk']; rfl))
end Go.Proofs.Ytmflfcbebeikcaa.Q

namespace Go.Proofs.Ytmflfcbebeikcaa.Q
open Go.RowKit
variable [Amb]

/-! ### numbers -/
def decS (n : Int) : Str → Int
  | [] => n
  | b :: r => decS (10 * n + ((b.toNat : Int) - 48)) r
def digits (l : Str) : Prop := ∀ b ∈ l, 48 ≤ (b.toNat : Int) ∧ (b.toNat : Int) ≤ 57
theorem decS_ge : ∀ (l : Str) (n : Int), 0 ≤ n → digits l → n * 10 ^ l.length ≤ decS n l
  | [], n, h, _ => by simp [decS]
  | b :: r, n, h, hd => by
    have hb := hd b (by simp)
    have ih := decS_ge r (10 * n + ((b.toNat : Int) - 48)) (by omega) (fun c hc => hd c (by simp [hc]))
    rw [decS, List.length_cons, Int.pow_succ]
    refine Int.le_trans ?_ ih
    rw [Int.mul_comm (10 ^ r.length) 10, ← Int.mul_assoc]
    refine Int.mul_le_mul_of_nonneg_right (by omega) ?_
    exact Int.le_of_lt (Int.pow_pos (by decide))
theorem decS_lt : ∀ (l : Str) (n : Int), 0 ≤ n → digits l → decS n l < (n + 1) * 10 ^ l.length
  | [], n, h, _ => by simp [decS]; omega
  | b :: r, n, h, hd => by
    have hb := hd b (by simp)
    have ih := decS_lt r (10 * n + ((b.toNat : Int) - 48)) (by omega) (fun c hc => hd c (by simp [hc]))
    rw [decS, List.length_cons, Int.pow_succ]
    refine Int.lt_of_lt_of_le ih ?_
    rw [Int.mul_comm (10 ^ r.length) 10, ← Int.mul_assoc]
    refine Int.mul_le_mul_of_nonneg_right (by omega) ?_
    exact Int.le_of_lt (Int.pow_pos (by decide))
theorem decS_nonneg {l : Str} {n : Int} (h : 0 ≤ n) (hd : digits l) : n ≤ decS n l := by
  have h1 := decS_ge l n h hd
  have h2 : (1 : Int) ≤ 10 ^ l.length := Int.pow_pos (by decide)
  have h3 : n * 1 ≤ n * 10 ^ l.length := Int.mul_le_mul_of_nonneg_left h2 h
  omega
theorem digS_dec : ∀ (l : Str) (n : Int), 0 ≤ n → n ≤ 9223372036854775807 → digits l → digS n l = if decS n l ≤ 9223372036854775807 then some (decS n l) else none
  | [], n, h, hm, _ => by rw [digS, decS, if_pos hm]
  | b :: r, n, h, hm, hd => by
    have hb := hd b (by simp)
    have hr : digits r := fun c hc => hd c (by simp [hc])
    rw [digS, decS]
    obtain ⟨q, hq⟩ : ∃ q, q = (9223372036854775807 - ((b.toNat : Int) - 48)).tdiv 10 := ⟨_, rfl⟩
    rw [← hq]
    rw [Int.tdiv_eq_ediv_of_nonneg (by omega)] at hq
    by_cases hgt : n > q
    · rw [if_pos hgt]
      have := decS_nonneg (n := 10 * n + ((b.toNat : Int) - 48)) (by omega) hr
      rw [if_neg (by omega)]
    · rw [if_neg hgt]
      exact digS_dec r _ (by omega) (by omega) hr
/-- What the reference says of a row of digits. -/
def numR (s : Str) : Int × Bool := if s.length > 1 ∧ s.headD 0 = 48 then (0, false) else if s.length > 19 then (0, false) else (IntKind.i64.wrap (decS 0 s), decide (decS 0 s ≤ 9223372036854775807))
theorem numR_dig {s : Str} (hd : digits s) (hz : ¬ (s.headD 0 = 48 ∧ s.length > 1)) : (∀ v, digS 0 s = some v → numR s = (v, true)) ∧ (digS 0 s = none → (numR s).2 = false) := by
  have hN : numR s = if s.length > 19 then (0, false) else (IntKind.i64.wrap (decS 0 s), decide (decS 0 s ≤ 9223372036854775807)) := by
    unfold numR
    rw [if_neg (fun e => hz ⟨e.2, e.1⟩)]
  rw [hN, digS_dec s 0 (by decide) (by decide) hd]
  have h0 := decS_nonneg (n := 0) (by decide) hd
  by_cases h19 : s.length > 19
  · have hbig : 9223372036854775807 < decS 0 s := by
      cases s with
      | nil => simp at h19
      | cons b r =>
        have hb := hd b (by simp)
        have hne : b ≠ 48 := fun e => hz ⟨by rw [e]; rfl, by omega⟩
        have hne' : (b.toNat : Int) ≠ 48 := fun e => hne (UInt8.toNat_inj.1 (by show b.toNat = 48; omega))
        have h1 := decS_ge r (10 * 0 + ((b.toNat : Int) - 48)) (by omega) (fun c hc => hd c (by simp [hc]))
        rw [decS]
        have h2 : (1 : Int) * 10 ^ r.length ≤ (10 * 0 + ((b.toNat : Int) - 48)) * 10 ^ r.length := Int.mul_le_mul_of_nonneg_right (by omega) (Int.le_of_lt (Int.pow_pos (by decide)))
        have h3 : (10 : Int) ^ 19 ≤ 10 ^ r.length := by
          have : r.length = 19 + (r.length - 19) := by simp at h19; omega
          rw [this, Int.pow_add]
          have h4 : (1 : Int) ≤ 10 ^ (r.length - 19) := Int.pow_pos (by decide)
          have := Int.mul_le_mul_of_nonneg_left h4 (show (0 : Int) ≤ 10 ^ 19 by decide)
          omega
        have h5 : (10 : Int) ^ 19 = 10000000000000000000 := by decide
        omega
    have hno : ¬ decS 0 s ≤ 9223372036854775807 := by omega
    rw [if_pos h19, if_neg hno]
    exact ⟨fun v h => (by cases h), fun _ => rfl⟩
  · rw [if_neg h19]
    by_cases hle : decS 0 s ≤ 9223372036854775807
    · rw [if_pos hle]
      refine ⟨fun v h => ?_, fun h => by cases h⟩
      injection h with h
      subst h
      rw [decide_eq_true hle]
      congr 1
      rw [IntKind.wrap_i64]; omega
    · rw [if_neg hle]
      exact ⟨fun v h => (by cases h), fun _ => decide_eq_false hle⟩
theorem decS_at {l : Str} {k : Nat} (n : Int) (h : k < l.length) : decS n (l.drop k) = decS (10 * n + ((l[k].toNat : Int) - 48)) (l.drop (k + 1)) := by
  rw [List.drop_eq_getElem_cons h]; rfl
theorem refNumber_c (s : Str) (hd : digits s) (hs : s.length < 1073741824) (h1 : 0 < s.length) : PFun Try.prog 87 [sv' s] [] (.tup [iv (numR s).1, .d (.bool (numR s).2)]) [] := by
  refine fn_sem pok 37 0 Try.func87 (by kernel_rfl) rfl rfl rfl rfl ?_
  refine SWp.go pok (by kernel_rfl) ?_
  have hh : s[0]? = some (s.headD 0) := by cases s with | nil => simp at h1 | cons b r => rfl
  have e48 : (((s.headD 0).toNat : Int) == 48) = (s.headD 0 == 48) := by
    rw [Bool.eq_iff_iff, beq_iff_eq, beq_iff_eq]
    exact ⟨fun h => UInt8.toNat_inj.1 (by show (s.headD 0).toNat = 48; omega), fun h => by rw [h]; rfl⟩
  have rest : ∀ k, k ≤ s.length → s.length ≤ 19 → 0 ≤ decS 0 (s.take k) ∧ decS 0 (s.take k) < 10000000000000000000 := fun k hk h19 => by
    have ht : digits (s.take k) := fun b hb => hd b (List.mem_of_mem_take hb)
    have h1 := decS_nonneg (n := 0) (by decide) ht
    have h2 := decS_lt (s.take k) 0 (by decide) ht
    have h3 : (10 : Int) ^ (s.take k).length ≤ 10 ^ 19 := by
      have hl : (s.take k).length ≤ 19 := by rw [List.length_take]; omega
      have e : 19 = (s.take k).length + (19 - (s.take k).length) := by omega
      have h4 : (1 : Int) ≤ 10 ^ (19 - (s.take k).length) := Int.pow_pos (by decide)
      have h5 := Int.mul_le_mul_of_nonneg_left h4 (show (0 : Int) ≤ 10 ^ (s.take k).length from Int.le_of_lt (Int.pow_pos (by decide)))
      rw [← Int.pow_add, ← e] at h5
      omega
    have h5 : (10 : Int) ^ 19 = 10000000000000000000 := by decide
    rw [h5] at h3
    omega
  have snoc : ∀ k (h : k < s.length), decS 0 (s.take (k + 1)) = 10 * decS 0 (s.take k) + ((s[k].toNat : Int) - 48) := fun k h => by
    have app : ∀ (l : Str) (n : Int) (b : UInt8), decS n (l ++ [b]) = 10 * decS n l + ((b.toNat : Int) - 48) := by
      intro l
      induction l with
      | nil => intro n b; rfl
      | cons c l ih => intro n b; exact ih _ b
    rw [List.take_add_one, List.getElem?_eq_getElem h]
    exact app _ _ _
  by_cases hz : s.length > 1 ∧ s.headD 0 = 48
  · unfold numR
    rw [if_pos hz]
    refine brP_true (by have := hz.1; simp; omega) ?_
    refine PIdx.at' rfl hh ?_
    refine brP_true (by rw [e48]; simpa using hz.2) ?_
    exact fin1 rfl
  have hN : numR s = if s.length > 19 then (0, false) else (IntKind.i64.wrap (decS 0 s), decide (decS 0 s ≤ 9223372036854775807)) := by
    unfold numR; rw [if_neg hz]
  rw [hN]
  refine brP_split (fun h => ?_) (fun h => ?_)
  all_goals try
    refine PIdx.at' rfl hh ?_
    refine brP_false (by rw [e48, beq_eq_false_iff_ne]; simp at h; exact fun e => hz ⟨by omega, e⟩) ?_
  all_goals
    by_cases h19 : s.length > 19
    · rw [if_pos h19]
      refine brP_true (by simp; omega) ?_
      exact fin1 rfl
    rw [if_neg h19]
    refine brP_false (by simp; omega) ?_
    refine SWp.loop (fun k : Nat => k ≤ s.length) (fun k => ([(0, sv' s), (4, .d (.int .u64 (decS 0 (s.take k)))), (5, iv k)], [])) (fun k => s.length - k) 0 (Nat.zero_le _) (Le.same ⟨rfl, rfl, rfl, trivial⟩) (fun k hk => ?_)
    refine SWp.go pok (by kernel_rfl) ?_
    refine brP_split (fun h => ?_) (fun h => ?_)
    · have hlt : k < s.length := by simpa using h
      have hb := hd s[k] (List.getElem_mem hlt)
      have hs1 := snoc k hlt
      have r1 := rest k (by omega) (by omega)
      have r2 := rest (k + 1) hlt (by omega)
      refine PIdx.at (get_at hlt) ?_
      have wa : IntKind.u8.wrap ((s[k].toNat : Int) - 48) = (s[k].toNat : Int) - 48 := by rw [IntKind.wrap_u8]; omega
      have wb : IntKind.u64.wrap ((s[k].toNat : Int) - 48) = (s[k].toNat : Int) - 48 := by rw [IntKind.wrap_u64]; omega
      have wc : IntKind.u64.wrap (10 * decS 0 (s.take k)) = 10 * decS 0 (s.take k) := by rw [IntKind.wrap_u64]; omega
      have wd : IntKind.u64.wrap (10 * decS 0 (s.take k) + ((s[k].toNat : Int) - 48)) = decS 0 (s.take (k + 1)) := by rw [hs1, IntKind.wrap_u64]; omega
      exact ⟨k + 1, hlt, by omega, Le.same ⟨rfl, by rw [wa, wb, wc, wd]; rfl, sint (wrap_nat k (by omega)), trivial⟩⟩
    · have hk' : k = s.length := by simp at h; omega
      subst hk'
      rw [List.take_length]
      refine brP_split (fun h5 => ?_) (fun h5 => ?_)
      · rw [h5]; exact fin1 rfl
      · rw [h5]; exact fin1 rfl
end Go.Proofs.Ytmflfcbebeikcaa.Q

namespace Go.Proofs.Ytmflfcbebeikcaa.Q
open Go.RowKit
variable [Amb]

def singles : List Str := [[123], [125], [40], [41], [59], [58], [61], [60], [62], [43], [45], [42], [33], [46]]
theorem all_u8 (p : UInt8 → Bool) (h : ((List.range 256).all fun n => p (UInt8.ofNat n)) = true) (b : UInt8) : p b = true := by
  have := List.all_eq_true.1 h b.toNat (List.mem_range.2 b.toNat_lt)
  rwa [UInt8.ofNat_toNat] at this
theorem single_all : ((List.range 256).all fun n => (singles.find? fun t => t == [UInt8.ofNat n]) == (if classS (UInt8.ofNat n).toNat = 5 ∧ ¬ (UInt8.ofNat n = 38 ∨ UInt8.ofNat n = 124) then some [UInt8.ofNat n] else none)) = true := by kernel_rfl
theorem find_congr {α : Type} {p q : α → Bool} : ∀ {l : List α}, (∀ x ∈ l, p x = q x) → l.find? p = l.find? q
  | [], _ => rfl
  | x :: l, h => by
    rw [List.find?_cons, List.find?_cons, h x (by simp), find_congr (l := l) fun y hy => h y (by simp [hy])]
theorem single_find (b : UInt8) (r : Str) : (singles.find? fun t => t.isPrefixOf (b :: r)) = if classS b.toNat = 5 ∧ ¬ (b = 38 ∨ b = 124) then some [b] else none := by
  have h := all_u8 (fun b => (singles.find? fun t => t == [b]) == (if classS b.toNat = 5 ∧ ¬ (b = 38 ∨ b = 124) then some [b] else none)) single_all b
  rw [← beq_iff_eq.1 h]
  refine find_congr fun t ht => ?_
  obtain ⟨c, rfl⟩ : ∃ c, t = [c] := by
    simp only [singles, List.mem_cons, List.not_mem_nil, or_false] at ht
    rcases ht with rfl | rfl | rfl | rfl | rfl | rfl | rfl | rfl | rfl | rfl | rfl | rfl | rfl | rfl <;> exact ⟨_, rfl⟩
  simp [List.isPrefixOf]
theorem two_all : (twos.all fun t => classS (t.headD 0).toNat == 5) = true := by kernel_rfl
/-- What the reference's list of signs says. -/
theorem sgn_find (b : UInt8) (r : Str) (h1 : classS b.toNat ≠ 1) (h2 : classS b.toNat ≠ 2) (h3 : classS b.toNat ≠ 3) (h4 : classS b.toNat ≠ 4) :
    (∀ t, (twos ++ singles).find? (fun t => t.isPrefixOf (b :: r)) = some t → stepT (b :: r) = (0, t.length, some (4, 0)) ∧ (b :: r).take t.length = t) ∧
    ((twos ++ singles).find? (fun t => t.isPrefixOf (b :: r)) = none → stepT (b :: r) = (10, 0, none)) := by
  have hst : stepT (b :: r) = if classS b.toNat = 5 then (if (twos.any fun t => t.isPrefixOf (b :: r)) = true then (0, 2, some (4, 0)) else if b = 38 ∨ b = 124 then (10, 0, none) else (0, 1, some (4, 0))) else (10, 0, none) := by
    unfold stepT
    rw [List.headD_cons, if_neg h1, if_neg h2, if_neg h3, if_neg h4]
  rw [hst, List.find?_append]
  by_cases hany : (twos.any fun t => t.isPrefixOf (b :: r)) = true
  · obtain ⟨t, m1, m2⟩ := List.any_eq_true.1 hany
    have hc5 : classS b.toNat = 5 := by
      have := List.all_eq_true.1 two_all t m1
      have hc := beq_iff_eq.1 this
      obtain ⟨c, d, rfl⟩ := twos_two m1
      simp only [List.isPrefixOf, Bool.and_eq_true, beq_iff_eq] at m2
      rw [← m2.1]; exact hc
    rw [if_pos hc5, if_pos hany]
    cases hf : twos.find? (fun t => t.isPrefixOf (b :: r)) with
    | none => exact absurd m2 (by simpa using List.find?_eq_none.1 hf t m1)
    | some u =>
      have hu := List.mem_of_find?_eq_some hf
      have hp := List.find?_some hf
      obtain ⟨c, d, rfl⟩ := twos_two hu
      refine ⟨fun t h => ?_, fun h => by simp at h⟩
      injection h with h
      subst h
      refine ⟨rfl, ?_⟩
      rw [List.isPrefixOf_iff_prefix, List.prefix_iff_eq_take] at hp
      exact hp.symm
  · have hf : twos.find? (fun t => t.isPrefixOf (b :: r)) = none := List.find?_eq_none.2 fun t ht hp => hany (List.any_eq_true.2 ⟨t, ht, hp⟩)
    rw [hf, Option.none_or, single_find, if_neg hany]
    by_cases hc : classS b.toNat = 5 ∧ ¬ (b = 38 ∨ b = 124)
    · rw [if_pos hc, if_pos hc.1, if_neg hc.2]
      refine ⟨fun t h => ?_, fun h => by cases h⟩
      injection h with h
      subst h
      exact ⟨rfl, rfl⟩
    · rw [if_neg hc]
      refine ⟨fun t h => (by cases h), fun _ => ?_⟩
      by_cases h5 : classS b.toNat = 5
      · rw [if_pos h5, if_pos (Classical.byContradiction fun e => hc ⟨h5, e⟩)]
      · rw [if_neg h5]
theorem refSigns_c : PFun Try.prog 88 [] [] (.d (.sl ((twos ++ singles).map scell))) [] := by
  refine fn_sem pok 2 0 Try.func88 (by kernel_rfl) rfl rfl rfl rfl ?_
  refine SWp.go pok (by kernel_rfl) ?_
  exact fin1 rfl
/-- A token at a place, or an error. -/
def oneR (w : Str) (a : Nat) : Tk × Int := match stepT w with
  | (e, n, some (k, v)) => (⟨k, w.take n, v, a⟩, e)
  | (e, _, none) => (tk0, e)
theorem digits_span {s : Str} {a : Nat} : digits ((s.drop a).take (spanN isDig (s.drop a))) := by
  intro b hb
  have : ∀ (l : Str), ∀ c ∈ l.take (spanN isDig l), isDig c.toNat = true := by
    intro l
    induction l with
    | nil => intro c hc; simp at hc
    | cons d l ih =>
      intro c hc
      rw [spanN] at hc
      split at hc
      · rename_i hd
        rw [List.take_succ_cons] at hc
        rcases List.mem_cons.1 hc with e | e
        · rw [e]; exact hd
        · exact ih c e
      · simp at hc
  have h := this _ b hb
  exact classS_dig (by simpa [isDig] using h)
theorem refOne_c (s : Str) (a : Nat) (ha : a < s.length) (hs : s.length < 1073741824) (h1 : classS s[a].toNat ≠ 1) (h2 : classS s[a].toNat ≠ 2) :
    PFun Try.prog 49 [sv' s, iv a] [] (.tup [(oneR (s.drop a) a).1.v, iv (oneR (s.drop a) a).2]) [] := by
  have hdr : s.drop a = s[a] :: s.drop (a + 1) := List.drop_eq_getElem_cons ha
  have hsp := spanN_le inNameS (s.drop a)
  have hsd := spanN_le isDig (s.drop a)
  rw [List.length_drop] at hsp hsd
  refine fn_sem pok 132 0 Try.func49 (by kernel_rfl) rfl rfl rfl rfl ?_
  refine SWp.go pok (by kernel_rfl) ?_
  refine PIdx.at (get_at ha) ?_
  refine PFun.call (refLetter_c _) ?_
  by_cases h3 : classS s[a].toNat = 3
  · refine brP_true (by simpa using h3) ?_
    have hst : stepT (s.drop a) = if spanN inNameS (s.drop a) > 32 then (12, 0, none) else if isWord ((s.drop a).take (spanN inNameS (s.drop a))) = true then (0, spanN inNameS (s.drop a), some (3, 0)) else (0, spanN inNameS (s.drop a), some (1, 0)) := by
      unfold stepT
      rw [hdr, List.headD_cons, if_neg h1, if_neg h2, if_pos h3]
    refine SWp.loop (fun k : Nat => a ≤ k ∧ k ≤ s.length ∧ spanF inNameS k (s.drop k) = spanF inNameS a (s.drop a)) (fun k => ([(0, sv' s), (1, iv a), (7, iv k), (4, .ptr 0 0)], [.box [iv 0, sv' [], iv 0, iv 0]])) (fun k => s.length - k) a ⟨Nat.le_refl _, by omega, rfl⟩ (Le.same ⟨rfl, rfl, rfl, rfl, trivial⟩) (fun k hk => ?_)
    obtain ⟨hak, hj, hk⟩ := hk
    have hw1 : IntKind.i64.wrap ((k : Int) + 1) = ((k + 1 : Nat) : Int) := wrap_nat k (by omega)
    -- behind the loop
    have after : spanF inNameS a (s.drop a) = k → (spanN inNameS (s.drop a) = k - a) := fun e => by rw [spanF_N] at e; omega
    have fin : ∀ (hsp : spanF inNameS a (s.drop a) = k), IntKind.i64.wrap ((k : Int) - a) = ((k - a : Nat) : Int) := fun _ => by rw [IntKind.wrap_i64]; omega
    refine SWp.go pok (by kernel_rfl) ?_
    have done : ∀ (hsp : spanF inNameS a (s.drop a) = k), cutFrom (cutTo s (some (k : Int))) (some (a : Int)) = (s.drop a).take (k - a) := fun _ => by
      simp only [cutTo, cutFrom, Int.toNat_natCast]
      rw [List.drop_take]
    refine brP_split (fun h => ?_) (fun h => ?_)
    · have hlt : k < s.length := by simpa using h
      have hat := spanF_at inNameS hlt
      refine PIdx.at (get_at hlt) ?_
      refine PFun.call (refLetter_c _) ?_
      refine brP_split (fun h3 => ?_) (fun h3 => ?_)
      · have h3 : (classS (s[k].toNat : Int) == 3) = true := by simpa using h3
        have hin : inNameS s[k].toNat = true := by unfold inNameS; rw [h3]; simp
        repeat refine brP_true h3 ?_
        exact ⟨k + 1, ⟨by omega, hlt, by rw [← hk, hat, if_pos hin]⟩, by omega, Le.same ⟨rfl, rfl, sint hw1, rfl, trivial⟩⟩
      have h3 : (classS (s[k].toNat : Int) == 3) = false := by simpa using h3
      repeat refine brP_false h3 ?_
      refine PIdx.at (get_at hlt) ?_
      repeat refine brP_false h3 ?_
      refine PFun.call (refDigit_c _) ?_
      repeat refine brP_false h3 ?_
      refine brP_split (fun h4 => ?_) (fun h4 => ?_)
      · have h4 : (classS (s[k].toNat : Int) == 4) = true := by simpa using h4
        have hin : inNameS s[k].toNat = true := by unfold inNameS; rw [h4]; simp
        repeat (first | refine brP_true h4 ?_ | refine brP_false h3 ?_)
        exact ⟨k + 1, ⟨by omega, hlt, by rw [← hk, hat, if_pos hin]⟩, by omega, Le.same ⟨rfl, rfl, sint hw1, rfl, trivial⟩⟩
      have h4 : (classS (s[k].toNat : Int) == 4) = false := by simpa using h4
      repeat (first | refine brP_false h4 ?_ | refine brP_false h3 ?_)
      refine PIdx.at (get_at hlt) ?_
      repeat (first | refine brP_false h4 ?_ | refine brP_false h3 ?_)
      refine brP_split (fun h5 => ?_) (fun h5 => ?_)
      · have h5 : ((s[k].toNat : Int) == 95) = true := by simpa using h5
        have hin : inNameS s[k].toNat = true := by unfold inNameS; rw [h5]; simp
        repeat (first | refine brP_true h5 ?_ | refine brP_false h4 ?_ | refine brP_false h3 ?_)
        exact ⟨k + 1, ⟨by omega, hlt, by rw [← hk, hat, if_pos hin]⟩, by omega, Le.same ⟨rfl, rfl, sint hw1, rfl, trivial⟩⟩
      have h5 : ((s[k].toNat : Int) == 95) = false := by simpa using h5
      have hin : inNameS s[k].toNat = false := by unfold inNameS; rw [h3, h4, h5]; rfl
      repeat (first | refine brP_false h5 ?_ | refine brP_false h4 ?_ | refine brP_false h3 ?_)
      have hsp : spanF inNameS a (s.drop a) = k := by rw [← hk, hat, if_neg (by rw [hin]; simp)]
      have hnn := after hsp
      have hdn := done hsp
      have hwk := fin hsp
      rw [hnn] at hst
      have hw := refWord_c ((s.drop a).take (k - a))
      rw [← hdn] at hw
      refine ⟨⟨by omega, by omega, by omega⟩, ?_⟩
      refine PFun.call hw ?_
      rw [hdn]
      by_cases hW : isWord ((s.drop a).take (k - a)) = true
      · refine brP_true hW ?_
        by_cases h32 : k - a > 32
        · refine brP_true (by rw [hwk]; simp; omega) ?_
          refine fin1 ?_
          unfold oneR
          rw [hst, if_pos h32]; rfl
        · refine brP_false (by rw [hwk]; simp; omega) ?_
          refine fin1 ?_
          unfold oneR
          rw [hst, if_neg h32, if_pos hW]; rfl
      · refine brP_false (by simpa using hW) ?_
        by_cases h32 : k - a > 32
        · refine brP_true (by rw [hwk]; simp; omega) ?_
          refine fin1 ?_
          unfold oneR
          rw [hst, if_pos h32]; rfl
        · refine brP_false (by rw [hwk]; simp; omega) ?_
          refine fin1 ?_
          unfold oneR
          rw [hst, if_neg h32, if_neg hW]; rfl
    · have hk' : s.drop k = [] := List.drop_of_length_le (by simp at h; omega)
      have hsp : spanF inNameS a (s.drop a) = k := by rw [← hk, hk']; rfl
      have hnn := after hsp
      have hdn := done hsp
      have hwk := fin hsp
      rw [hnn] at hst
      have hw := refWord_c ((s.drop a).take (k - a))
      rw [← hdn] at hw
      refine ⟨⟨by omega, by omega, by omega⟩, ?_⟩
      refine PFun.call hw ?_
      rw [hdn]
      by_cases hW : isWord ((s.drop a).take (k - a)) = true
      · refine brP_true hW ?_
        by_cases h32 : k - a > 32
        · refine brP_true (by rw [hwk]; simp; omega) ?_
          refine fin1 ?_
          unfold oneR
          rw [hst, if_pos h32]; rfl
        · refine brP_false (by rw [hwk]; simp; omega) ?_
          refine fin1 ?_
          unfold oneR
          rw [hst, if_neg h32, if_pos hW]; rfl
      · refine brP_false (by simpa using hW) ?_
        by_cases h32 : k - a > 32
        · refine brP_true (by rw [hwk]; simp; omega) ?_
          refine fin1 ?_
          unfold oneR
          rw [hst, if_pos h32]; rfl
        · refine brP_false (by rw [hwk]; simp; omega) ?_
          refine fin1 ?_
          unfold oneR
          rw [hst, if_neg h32, if_neg hW]; rfl
  refine brP_false (by simpa using h3) ?_
  refine PFun.call (refDigit_c _) ?_
  by_cases h4 : classS s[a].toNat = 4
  · refine brP_true (by simpa using h4) ?_
    have hst : stepT (s.drop a) = if (s.drop a).headD 0 = 48 ∧ spanN isDig (s.drop a) > 1 then ((11 : Int), (0 : Nat), (none : Option (Int × Int))) else match digS 0 ((s.drop a).take (spanN isDig (s.drop a))) with
        | some v => (0, spanN isDig (s.drop a), some (2, v))
        | none => (11, 0, none) := by
      unfold stepT
      rw [hdr, List.headD_cons, if_neg h1, if_neg h2, if_neg h3, if_pos h4]
      rfl
    refine SWp.loop (fun k : Nat => a ≤ k ∧ k ≤ s.length ∧ spanF isDig k (s.drop k) = spanF isDig a (s.drop a)) (fun k => ([(0, sv' s), (1, iv a), (7, iv k), (4, .ptr 0 0)], [.box [iv 0, sv' [], iv 0, iv 0]])) (fun k => s.length - k) a ⟨Nat.le_refl _, by omega, rfl⟩ (Le.same ⟨rfl, rfl, rfl, rfl, trivial⟩) (fun k hk => ?_)
    obtain ⟨hak, hj, hk⟩ := hk
    have hw1 : IntKind.i64.wrap ((k : Int) + 1) = ((k + 1 : Nat) : Int) := wrap_nat k (by omega)
    have after : spanF isDig a (s.drop a) = k → (spanN isDig (s.drop a) = k - a) := fun e => by rw [spanF_N] at e; omega
    have done : ∀ (hsp : spanF isDig a (s.drop a) = k), cutFrom (cutTo s (some (k : Int))) (some (a : Int)) = (s.drop a).take (k - a) := fun _ => by
      simp only [cutTo, cutFrom, Int.toNat_natCast]
      rw [List.drop_take]
    refine SWp.go pok (by kernel_rfl) ?_
    refine brP_split (fun h => ?_) (fun h => ?_)
    · have hlt : k < s.length := by simpa using h
      have hat := spanF_at isDig hlt
      refine PIdx.at (get_at hlt) ?_
      refine PFun.call (refDigit_c _) ?_
      refine brP_split (fun h5 => ?_) (fun h5 => ?_)
      · have hin : isDig s[k].toNat = true := by unfold isDig; simpa using h5
        exact ⟨k + 1, ⟨by omega, hlt, by rw [← hk, hat, if_pos hin]⟩, by omega, Le.same ⟨rfl, rfl, sint hw1, rfl, trivial⟩⟩
      have hin : isDig s[k].toNat = false := by unfold isDig; simpa using h5
      have hsp : spanF isDig a (s.drop a) = k := by rw [← hk, hat, if_neg (by rw [hin]; simp)]
      have hnn := after hsp
      have hdn := done hsp
      rw [hnn] at hst
      have hdg : digits ((s.drop a).take (k - a)) := by rw [← hnn]; exact digits_span
      have hln : ((s.drop a).take (k - a)).length = k - a := by rw [List.length_take, List.length_drop]; omega
      have hpos : a < k := by
        rw [← hsp, hdr, spanF, if_pos (by unfold isDig; simpa using h4)]
        have := spanF_ge isDig (s.drop (a + 1)) (a + 1); omega
      have hn := refNumber_c ((s.drop a).take (k - a)) hdg (by omega) (by omega)
      rw [← hdn] at hn
      refine ⟨⟨by omega, by omega, by omega⟩, ?_⟩
      refine PFun.call hn ?_
      rw [hdn]
      have hhd : ((s.drop a).take (k - a)).headD 0 = (s.drop a).headD 0 := by
        rw [hdr]
        have : k - a = (k - a - 1) + 1 := by omega
        rw [this]; rfl
      by_cases hz : ((s.drop a).take (k - a)).headD 0 = 48 ∧ ((s.drop a).take (k - a)).length > 1
      · have hno : (numR ((s.drop a).take (k - a))).2 = false := by unfold numR; rw [if_pos ⟨hz.2, hz.1⟩]
        rw [hln, hhd] at hz
        rw [if_pos hz] at hst
        refine brP_true (by rw [hno]; rfl) ?_
        refine fin1 ?_
        unfold oneR
        rw [hst]; rfl
      obtain ⟨n1, n2⟩ := numR_dig hdg hz
      rw [hln, hhd] at hz
      rw [if_neg hz] at hst
      cases hv : digS 0 ((s.drop a).take (k - a)) with
      | none =>
        rw [hv] at hst
        refine brP_true (by rw [n2 hv]; rfl) ?_
        refine fin1 ?_
        unfold oneR
        rw [hst]; rfl
      | some v =>
        rw [hv] at hst
        have hnv := n1 v hv
        refine brP_false (by rw [hnv]; rfl) ?_
        refine ⟨⟨by omega, by omega, by omega⟩, ?_⟩
        refine fin1 ?_
        unfold oneR
        rw [hst, hdn, hnv]; rfl
    · have hk' : s.drop k = [] := List.drop_of_length_le (by simp at h; omega)
      have hsp : spanF isDig a (s.drop a) = k := by rw [← hk, hk']; rfl
      have hnn := after hsp
      have hdn := done hsp
      rw [hnn] at hst
      have hdg : digits ((s.drop a).take (k - a)) := by rw [← hnn]; exact digits_span
      have hln : ((s.drop a).take (k - a)).length = k - a := by rw [List.length_take, List.length_drop]; omega
      have hpos : a < k := by
        rw [← hsp, hdr, spanF, if_pos (by unfold isDig; simpa using h4)]
        have := spanF_ge isDig (s.drop (a + 1)) (a + 1); omega
      have hn := refNumber_c ((s.drop a).take (k - a)) hdg (by omega) (by omega)
      rw [← hdn] at hn
      refine ⟨⟨by omega, by omega, by omega⟩, ?_⟩
      refine PFun.call hn ?_
      rw [hdn]
      have hhd : ((s.drop a).take (k - a)).headD 0 = (s.drop a).headD 0 := by
        rw [hdr]
        have : k - a = (k - a - 1) + 1 := by omega
        rw [this]; rfl
      by_cases hz : ((s.drop a).take (k - a)).headD 0 = 48 ∧ ((s.drop a).take (k - a)).length > 1
      · have hno : (numR ((s.drop a).take (k - a))).2 = false := by unfold numR; rw [if_pos ⟨hz.2, hz.1⟩]
        rw [hln, hhd] at hz
        rw [if_pos hz] at hst
        refine brP_true (by rw [hno]; rfl) ?_
        refine fin1 ?_
        unfold oneR
        rw [hst]; rfl
      obtain ⟨n1, n2⟩ := numR_dig hdg hz
      rw [hln, hhd] at hz
      rw [if_neg hz] at hst
      cases hv : digS 0 ((s.drop a).take (k - a)) with
      | none =>
        rw [hv] at hst
        refine brP_true (by rw [n2 hv]; rfl) ?_
        refine fin1 ?_
        unfold oneR
        rw [hst]; rfl
      | some v =>
        rw [hv] at hst
        have hnv := n1 v hv
        refine brP_false (by rw [hnv]; rfl) ?_
        refine ⟨⟨by omega, by omega, by omega⟩, ?_⟩
        refine fin1 ?_
        unfold oneR
        rw [hst, hdn, hnv]; rfl
  refine brP_false (by simpa using h4) ?_
  refine PFun.call refSigns_c ?_
  obtain ⟨f1, f2⟩ := sgn_find s[a] (s.drop (a + 1)) h1 h2 h3 h4
  rw [← hdr] at f1 f2
  have hL : (twos ++ singles).length = 21 := rfl
  have t7 : twos.length = 7 := rfl
  have s14 : singles.length = 14 := rfl
  have tok : ∀ t ∈ twos ++ singles, 1 ≤ t.length ∧ t.length ≤ 2 := by decide
  refine SWp.loop (fun k : Nat => k ≤ 21 ∧ ((twos ++ singles).drop k).find? (fun t => t.isPrefixOf (s.drop a)) = (twos ++ singles).find? (fun t => t.isPrefixOf (s.drop a))) (fun k => ([(0, sv' s), (1, iv a), (11, .d (.sl ((twos ++ singles).map scell))), (12, iv k), (4, .ptr 0 0)], [.box [iv 0, sv' [], iv 0, iv 0]])) (fun k => 21 - k) 0 ⟨Nat.zero_le _, rfl⟩ (Le.same ⟨rfl, rfl, rfl, rfl, rfl, trivial⟩) (fun k hk => ?_)
  obtain ⟨hk21, hk⟩ := hk
  have hw1 : IntKind.i64.wrap ((k : Int) + 1) = ((k + 1 : Nat) : Int) := wrap_nat k (by omega)
  refine SWp.go pok (by kernel_rfl) ?_
  refine brP_split (fun h => ?_) (fun h => ?_)
  · have hlt : k < (twos ++ singles).length := by rw [hL]; simp at h; omega
    have htk := tok _ (List.getElem_mem hlt)
    generalize hte : (twos ++ singles)[k] = t at htk
    have hget : (twos ++ singles)[k]? = some t := by rw [List.getElem?_eq_getElem hlt, hte]
    have hat : ((twos ++ singles).drop k).find? (fun t => t.isPrefixOf (s.drop a)) = if t.isPrefixOf (s.drop a) = true then some t else ((twos ++ singles).drop (k + 1)).find? (fun t => t.isPrefixOf (s.drop a)) := by
      rw [List.drop_eq_getElem_cons hlt, hte, List.find?_cons]
      split <;> simp_all
    have hlen : t.isPrefixOf (s.drop a) = true → a + t.length ≤ s.length := fun hp => by
      have := (List.isPrefixOf_iff_prefix.1 hp).length_le
      rw [List.length_drop] at this; omega
    have hwl : IntKind.i64.wrap ((s.length : Int) - a) = ((s.length - a : Nat) : Int) := by rw [IntKind.wrap_i64]; omega
    have hwt : IntKind.i64.wrap ((a : Int) + (t.length : Int)) = ((a + t.length : Nat) : Int) := by rw [IntKind.wrap_i64]; omega
    refine PIdx.map hget ?_
    have no : ¬ t.isPrefixOf (s.drop a) = true → ((twos ++ singles).drop (k + 1)).find? (fun t => t.isPrefixOf (s.drop a)) = (twos ++ singles).find? (fun t => t.isPrefixOf (s.drop a)) := fun hn => by
      rw [← hk, hat, if_neg hn]
    by_cases hroom : a + t.length ≤ s.length
    · refine brP_true (by rw [hwl]; simp; omega) ?_
      refine PIdx.map hget ?_
      refine ⟨⟨by omega, by rw [hwt]; omega, by rw [hwt]; omega⟩, ?_⟩
      refine PIdx.map hget ?_
      have hcut : cutFrom (cutTo s (some (IntKind.i64.wrap ((a : Int) + (t.length : Int))))) (some (a : Int)) = (s.drop a).take t.length := by
        rw [hwt]
        simp only [cutTo, cutFrom, Int.toNat_natCast]
        rw [List.drop_take, Nat.add_sub_cancel_left]
      by_cases hp : t.isPrefixOf (s.drop a) = true
      · have hpt : (s.drop a).take t.length = t := by
          rw [List.isPrefixOf_iff_prefix, List.prefix_iff_eq_take] at hp
          exact hp.symm
        rw [hat, if_pos hp] at hk
        obtain ⟨g1, g2⟩ := f1 t hk.symm
        refine brP_true (by show (cutFrom (cutTo s (some (IntKind.i64.wrap ((a : Int) + (t.length : Int))))) (some (a : Int)) == t) = true; rw [hcut, hpt]; simp) ?_
        refine PIdx.map hget ?_
        refine fin1 ?_
        unfold oneR
        rw [g1]
        dsimp only
        rw [hpt]; rfl
      · refine brP_false (by
          show (cutFrom (cutTo s (some (IntKind.i64.wrap ((a : Int) + (t.length : Int))))) (some (a : Int)) == t) = false
          rw [hcut, beq_eq_false_iff_ne]
          exact fun e => hp (by rw [List.isPrefixOf_iff_prefix, List.prefix_iff_eq_take]; exact e.symm)) ?_
        exact ⟨k + 1, ⟨by rw [hL] at hlt; omega, no hp⟩, by omega, Le.same ⟨rfl, rfl, rfl, sint hw1, rfl, trivial⟩⟩
    · refine brP_false (by rw [hwl]; simp; omega) ?_
      exact ⟨k + 1, ⟨by rw [hL] at hlt; omega, no (fun hp => hroom (hlen hp))⟩, by omega, Le.same ⟨rfl, rfl, rfl, sint hw1, rfl, trivial⟩⟩
  · have hk' : (twos ++ singles).drop k = [] := List.drop_of_length_le (by rw [hL]; simp at h; omega)
    rw [hk'] at hk
    have := f2 hk.symm
    refine fin1 ?_
    unfold oneR
    rw [this]; rfl
end Go.Proofs.Ytmflfcbebeikcaa.Q

namespace Go.Proofs.Ytmflfcbebeikcaa.Q
open Go.RowKit
variable [Amb]

theorem stepT_some {w : Str} {e : Int} {n : Nat} {kv : Int × Int} (h : stepT w = (e, n, some kv)) : e = 0 := by
  unfold stepT at h
  repeat' (split at h)
  all_goals first
    | exact (congrArg Prod.fst h).symm
    | (exact absurd (congrArg (fun q => q.2.2) h) (by simp))
theorem stepT_none {w : Str} {e : Int} {n : Nat} (h1 : classS (w.headD 0).toNat ≠ 1) (h2 : classS (w.headD 0).toNat ≠ 2) (h : stepT w = (e, n, none)) : e ≠ 0 ∧ n = 0 := by
  unfold stepT at h
  rw [if_neg h1, if_neg h2] at h
  repeat' (split at h)
  all_goals first
    | (have h8 := congrArg Prod.fst h; have h9 := congrArg (fun q => q.2.1) h; dsimp only at h8 h9; omega)
    | (exact absurd (congrArg (fun q => q.2.2) h) (by simp))
theorem class_blank (b : UInt8) : classS b.toNat = 1 ↔ b = 32 ∨ b = 9 ∨ b = 13 ∨ b = 10 := by
  have h := all_u8 (fun b => decide (classS b.toNat = 1) == decide (b = 32 ∨ b = 9 ∨ b = 13 ∨ b = 10)) (by kernel_rfl) b
  have h := beq_iff_eq.1 h
  rw [← decide_eq_true_iff (p := classS b.toNat = 1), h, decide_eq_true_iff]
theorem class_note (b : UInt8) : classS b.toNat = 2 ↔ b = 35 := by
  have h := all_u8 (fun b => decide (classS b.toNat = 2) == decide (b = 35)) (by kernel_rfl) b
  have h := beq_iff_eq.1 h
  rw [← decide_eq_true_iff (p := classS b.toNat = 2), h, decide_eq_true_iff]
theorem u8_eq (c d : UInt8) : ((c.toNat : Int) == (d.toNat : Int)) = (c == d) := by
  rw [Bool.eq_iff_iff, beq_iff_eq, beq_iff_eq]
  exact ⟨fun h => UInt8.toNat_inj.1 (by omega), fun h => by rw [h]⟩
theorem refScan_c (s : Str) (hs : s.length < 1073741824) : PFun Try.prog 25 [sv' s] [] (tks (scanS s)) [] := by
  refine fn_sem pok 75 0 Try.func25 (by kernel_rfl) rfl rfl rfl rfl ?_
  refine SWp.go pok (by kernel_rfl) ?_
  unfold scanS
  refine brP_split (fun h => ?_) (fun h => ?_)
  · rw [if_pos (by simp at h; omega)]
    exact fin1 rfl
  have hlen : ¬ s.length > 20000 := by simp at h; omega
  rw [if_neg hlen]
  refine SWp.tipSlot 5 4 rfl ?_
  refine SWp.loop (fun q : Nat × List Tk × List (List D) => q.1 ≤ s.length ∧ q.2.2 = q.2.1.map Tk.c ∧ q.2.1.length ≤ q.1 ∧ ∃ f, s.length - q.1 < f ∧ scanF s f q.1 q.2.1 = scanF s (s.length + 1) 0 [])
    (fun q => ([(0, sv' s), (5, .gsl q.2.2 0), (6, iv q.1)], [.tip 4 q.2.1.length])) (fun q => s.length - q.1) (0, [], []) ⟨Nat.zero_le _, rfl, Nat.zero_le _, s.length + 1, by omega, rfl⟩ (Le.same ⟨rfl, rfl, rfl, trivial⟩) (fun q hq => ?_)
  obtain ⟨a, l, rows⟩ := q
  obtain ⟨ha, hr, hl, f, hf, he⟩ := hq
  dsimp only at ha hr hl hf he
  subst hr
  cases f with
  | zero => omega
  | succ f =>
    rw [scanF] at he
    refine SWp.go pok (by kernel_rfl) ?_
    refine brP_split (fun h => ?_) (fun h => ?_)
    · have hlt : a < s.length := by simpa using h
      rw [if_pos hlt] at he
      have hw1 : IntKind.i64.wrap ((a : Int) + 1) = ((a + 1 : Nat) : Int) := wrap_nat a (by omega)
      have hdr : s.drop a = s[a] :: s.drop (a + 1) := List.drop_eq_getElem_cons hlt
      have hnx := nextS_T s a l
      have u32 := u8_eq s[a] 32
      have u9 := u8_eq s[a] 9
      have u13 := u8_eq s[a] 13
      have u10 := u8_eq s[a] 10
      have u35 := u8_eq s[a] 35
      have round : ∀ n : Nat, (nextS s a l) = (0, a + n, l) → 0 < n → a + n ≤ s.length → ∃ f', s.length - (a + n) < f' ∧ scanF s f' (a + n) l = scanF s (s.length + 1) 0 [] := fun n hn h0 hle => by
        rw [hn, if_pos rfl] at he
        exact ⟨f, by omega, he⟩
      refine PIdx.at (get_at hlt) ?_
      by_cases hb : classS s[a].toNat = 1
      · have hst : stepT (s.drop a) = (0, 1, none) := by unfold stepT; rw [hdr, List.headD_cons, if_pos hb]
        rw [hst] at hnx
        obtain ⟨f', k1, k2⟩ := round 1 hnx (by decide) (by omega)
        have hb' := (class_blank _).1 hb
        by_cases g32 : s[a] = 32
        · refine brP_true (by show ((s[a].toNat : Int) == ((32 : UInt8).toNat : Int)) = true; rw [u32]; simpa using g32) ?_
          exact ⟨(a + 1, l, l.map Tk.c), ⟨by dsimp only; omega, rfl, by dsimp only; omega, f', k1, k2⟩, by dsimp only; omega, .inr ⟨[0], ⟨rfl, rfl⟩, rfl, rfl, rfl, sint hw1, trivial⟩⟩
        refine brP_false (by show ((s[a].toNat : Int) == ((32 : UInt8).toNat : Int)) = false; rw [u32]; simpa using g32) ?_
        by_cases g9 : s[a] = 9
        · refine brP_true (by show ((s[a].toNat : Int) == ((9 : UInt8).toNat : Int)) = true; rw [u9]; simpa using g9) ?_
          exact ⟨(a + 1, l, l.map Tk.c), ⟨by dsimp only; omega, rfl, by dsimp only; omega, f', k1, k2⟩, by dsimp only; omega, .inr ⟨[0], ⟨rfl, rfl⟩, rfl, rfl, rfl, sint hw1, trivial⟩⟩
        refine brP_false (by show ((s[a].toNat : Int) == ((9 : UInt8).toNat : Int)) = false; rw [u9]; simpa using g9) ?_
        by_cases g13 : s[a] = 13
        · refine brP_true (by show ((s[a].toNat : Int) == ((13 : UInt8).toNat : Int)) = true; rw [u13]; simpa using g13) ?_
          exact ⟨(a + 1, l, l.map Tk.c), ⟨by dsimp only; omega, rfl, by dsimp only; omega, f', k1, k2⟩, by dsimp only; omega, .inr ⟨[0], ⟨rfl, rfl⟩, rfl, rfl, rfl, sint hw1, trivial⟩⟩
        refine brP_false (by show ((s[a].toNat : Int) == ((13 : UInt8).toNat : Int)) = false; rw [u13]; simpa using g13) ?_
        have g10 : s[a] = 10 := by rcases hb' with h | h | h | h; exact absurd h g32; exact absurd h g9; exact absurd h g13; exact h
        refine brP_true (by show ((s[a].toNat : Int) == ((10 : UInt8).toNat : Int)) = true; rw [u10]; simpa using g10) ?_
        exact ⟨(a + 1, l, l.map Tk.c), ⟨by dsimp only; omega, rfl, by dsimp only; omega, f', k1, k2⟩, by dsimp only; omega, .inr ⟨[0], ⟨rfl, rfl⟩, rfl, rfl, rfl, sint hw1, trivial⟩⟩
      have nb := fun h => hb ((class_blank _).2 h)
      refine brP_false (by show ((s[a].toNat : Int) == ((32 : UInt8).toNat : Int)) = false; rw [u32]; simpa using fun h => nb (.inl h)) ?_
      refine brP_false (by show ((s[a].toNat : Int) == ((9 : UInt8).toNat : Int)) = false; rw [u9]; simpa using fun h => nb (.inr (.inl h))) ?_
      refine brP_false (by show ((s[a].toNat : Int) == ((13 : UInt8).toNat : Int)) = false; rw [u13]; simpa using fun h => nb (.inr (.inr (.inl h)))) ?_
      refine brP_false (by show ((s[a].toNat : Int) == ((10 : UInt8).toNat : Int)) = false; rw [u10]; simpa using fun h => nb (.inr (.inr (.inr h)))) ?_
      by_cases hn : classS s[a].toNat = 2
      · have hst : stepT (s.drop a) = (0, spanN notNl (s.drop a), none) := by unfold stepT; rw [hdr, List.headD_cons, if_neg hb, if_pos hn, ← hdr]
        rw [hst] at hnx
        have g35 := (class_note _).1 hn
        have hnl : notNl s[a].toNat = true := by rw [g35]; rfl
        have hsp := spanN_le notNl (s.drop a)
        rw [List.length_drop] at hsp
        have hpos : 0 < spanN notNl (s.drop a) := by rw [hdr, spanN, if_pos hnl]; omega
        obtain ⟨f', k1, k2⟩ := round (spanN notNl (s.drop a)) hnx hpos (by omega)
        refine brP_true (by show ((s[a].toNat : Int) == ((35 : UInt8).toNat : Int)) = true; rw [u35]; simpa using g35) ?_
        refine SWp.loop (fun k : Nat => a ≤ k ∧ k ≤ s.length ∧ spanF notNl k (s.drop k) = spanF notNl a (s.drop a)) (fun k => ([(0, sv' s), (5, .gsl (l.map Tk.c) 0), (6, iv k)], [.tip 4 l.length])) (fun k => s.length - k) a ⟨Nat.le_refl _, by omega, rfl⟩ (Le.same ⟨rfl, rfl, rfl, trivial⟩) (fun k hk => ?_)
        obtain ⟨hak, hj, hk⟩ := hk
        refine SWp.go pok (by kernel_rfl) ?_
        have out : spanF notNl a (s.drop a) = k → k = a + spanN notNl (s.drop a) := fun e => by rw [spanF_N] at e; omega
        refine brP_split (fun h => ?_) (fun h => ?_)
        · have hlt2 : k < s.length := by simpa using h
          have hat := spanF_at notNl hlt2
          refine PIdx.at (get_at hlt2) ?_
          refine brP_split (fun h3 => ?_) (fun h3 => ?_)
          · exact ⟨k + 1, ⟨by omega, hlt2, by rw [← hk, hat, if_pos (show notNl s[k].toNat = true from h3)]⟩, by omega, .inr ⟨[0], ⟨rfl, rfl⟩, rfl, rfl, rfl, sint (wrap_nat k (by omega)), trivial⟩⟩
          · have hsp2 : spanF notNl a (s.drop a) = k := by rw [← hk, hat, if_neg (by rw [show notNl s[k].toNat = false from h3]; simp)]
            have e := out hsp2
            subst e
            exact ⟨(a + spanN notNl (s.drop a), l, l.map Tk.c), ⟨by dsimp only; omega, rfl, by dsimp only; omega, f', k1, k2⟩, by dsimp only; omega, .inr ⟨[0], ⟨rfl, rfl⟩, rfl, rfl, rfl, rfl, trivial⟩⟩
        · have hk' : s.drop k = [] := List.drop_of_length_le (by simp at h; omega)
          have hsp2 : spanF notNl a (s.drop a) = k := by rw [← hk, hk']; rfl
          have e := out hsp2
          subst e
          exact ⟨(a + spanN notNl (s.drop a), l, l.map Tk.c), ⟨by dsimp only; omega, rfl, by dsimp only; omega, f', k1, k2⟩, by dsimp only; omega, .inr ⟨[0], ⟨rfl, rfl⟩, rfl, rfl, rfl, rfl, trivial⟩⟩
      refine brP_false (by show ((s[a].toNat : Int) == ((35 : UInt8).toNat : Int)) = false; rw [u35]; simpa using fun h => hn ((class_note _).2 h)) ?_
      refine PFun.call (refOne_c s a hlt hs hb hn) ?_
      have hno := next_ok (s := s) (a := a) (l := l) hlt
      have hs1 := fun e n kv => stepT_some (w := s.drop a) (e := e) (n := n) (kv := kv)
      have hs2 := fun e n => stepT_none (w := s.drop a) (e := e) (n := n) (by rw [hdr]; exact hb) (by rw [hdr]; exact hn)
      unfold oneR
      generalize hq : stepT (s.drop a) = q at hnx hs1 hs2 ⊢
      obtain ⟨e, n, o⟩ := q
      cases o with
      | none =>
        obtain ⟨h0, hn0⟩ := hs2 e n rfl
        subst hn0
        have hn1 : nextS s a l = (e, a + 0, l) := hnx
        rw [if_neg (by rw [hn1]; exact h0), hn1] at he
        dsimp only at he ⊢
        refine brP_true (by simpa using h0) ?_
        rw [← he]
        exact fin1 (by rw [Nat.add_zero]; rfl)
      | some kv =>
        obtain ⟨k, v⟩ := kv
        have h0 := hs1 e n (k, v) rfl
        subst h0
        have hn1 : nextS s a l = (0, a + n, l ++ [⟨k, (s.drop a).take n, v, a⟩]) := hnx
        rw [if_pos (by rw [hn1]), hn1] at he
        rw [hn1] at hno
        dsimp only at he hno ⊢
        obtain ⟨g1, g2, g3⟩ := hno rfl
        have hln : ((s.drop a).take n).length = n := by rw [List.length_take, List.length_drop]; omega
        have hwn : IntKind.i64.wrap ((a : Int) + (((s.drop a).take n).length : Int)) = ((a + n : Nat) : Int) := by rw [hln, IntKind.wrap_i64]; omega
        refine ⟨⟨by simp, RL_tk _, fun r hr => by simp at hr; subst hr; rfl, by simp; omega⟩, ?_⟩
        refine ⟨(a + n, l ++ [Tk.mk k ((s.drop a).take n) v a], (l ++ [Tk.mk k ((s.drop a).take n) v a]).map Tk.c), ⟨g2, rfl, by dsimp only; rw [List.length_append, List.length_singleton]; omega, f, by dsimp only; omega, he⟩, by dsimp only; omega, .inr ⟨[0], ⟨rfl, rfl⟩, ?_, rfl, ?_, sint hwn, trivial⟩⟩
        · simp only [List.length_append, List.length_map, List.length_cons, List.length_nil]; rfl
        · simp only [List.map_append, List.map_cons, List.map_nil]; rfl
    · have hge : a = s.length := by simp at h; omega
      subst hge
      rw [if_neg (Nat.lt_irrefl _)] at he
      refine ⟨⟨by simp, RL_tk _, fun r hr => by simp at hr; subst hr; rfl, by simp; omega⟩, ?_⟩
      rw [← he]
      exact fin1 (by simp [tks]; rfl)
end Go.Proofs.Ytmflfcbebeikcaa.Q

namespace Go.Proofs.Ytmflfcbebeikcaa.Q
open Go.RowKit
variable [Amb]

/-- The reference's reader of some tokens: the place, how many are open, the error, and where. -/
structure Pr where
  i : Nat
  opn : Int
  err : Int
  at_ : Int
abbrev Pr.b (L : List Tk) (p : Pr) : Ob := .box [.d (.sl (L.map Tk.c)), iv p.i, iv p.opn, iv p.err, iv p.at_]
/-- It reads as the program's does. -/
structure Rl (L : List Tk) (r : Rd) (p : Pr) : Prop where
  err : p.err = r.code
  at_ : p.at_ = r.at_
  lt : p.i < L.length
  good : r.code = 0 → r.toks = L.drop p.i ∧ p.opn = r.opn
def Pr.tok (L : List Tk) (p : Pr) : Tk := L.getD p.i tk0
def Pr.next (L : List Tk) (p : Pr) : Pr := if p.i + 1 < L.length then ⟨p.i + 1, p.opn, p.err, p.at_⟩ else p
def Pr.fail (p : Pr) (e a : Int) : Pr := if p.err = 0 then ⟨p.i, p.opn, e, a⟩ else p
def Pr.is (L : List Tk) (p : Pr) (s : Str) : Bool := ((p.tok L).kind == 3 || (p.tok L).kind == 4) && (p.tok L).text == s
def Pr.want (L : List Tk) (p : Pr) (s : Str) : Pr := if p.err = 0 then (if p.is L s = true then p.next L else p.fail 40 (p.tok L).pl) else p
def Pr.name (L : List Tk) (p : Pr) : (Str × Int) × Pr := if p.err = 0 then (if (p.tok L).kind = 1 then (((p.tok L).text, (p.tok L).pl), p.next L) else (([], 0), p.fail 40 (p.tok L).pl)) else (([], 0), p)
def Pr.opens (L : List Tk) (p : Pr) : Pr := if p.err = 0 ∧ 64 ≤ p.opn then ⟨p.i, IntKind.i64.wrap (p.opn + 1), 41, (p.tok L).pl⟩ else ⟨p.i, IntKind.i64.wrap (p.opn + 1), p.err, p.at_⟩
def Pr.less (p : Pr) : Pr := ⟨p.i, IntKind.i64.wrap (p.opn - 1), p.err, p.at_⟩
section
variable {L : List Tk} {p : Pr}
theorem Pr.get (h : p.i < L.length) : L[p.i]? = some (p.tok L) := by
  unfold Pr.tok
  rw [List.getD_eq_getElem?_getD, List.getElem?_eq_getElem h]; rfl
theorem ptok_c (h : p.i < L.length) : PFun Try.prog 31 [.ptr 0 0] [p.b L] (p.tok L).v [p.b L] := by
  refine fn_sem pok 13 1 Try.func31 (by kernel_rfl) rfl rfl rfl rfl ?_
  refine SWp.go pok (by kernel_rfl) ?_
  refine Tk.at rfl (Pr.get h) ?_
  exact ⟨rfl, rfl⟩
theorem pnext_c (h : p.i < L.length) (hL : L.length < 1073741824) : PFun Try.prog 59 [.ptr 0 0] [p.b L] (.tup []) [(p.next L).b L] := by
  have hw : IntKind.i64.wrap ((p.i : Int) + 1) = ((p.i + 1 : Nat) : Int) := wrap_nat _ (by omega)
  refine fn_sem pok 20 1 Try.func59 (by kernel_rfl) rfl rfl rfl rfl ?_
  refine SWp.go pok (by kernel_rfl) ?_
  unfold Pr.next
  refine brP_split (fun h1 => ?_) (fun h1 => ?_)
  · rw [if_pos (by rw [hw] at h1; simp at h1; omega)]
    exact ⟨rfl, by rw [hw]⟩
  · rw [if_neg (by rw [hw] at h1; simp at h1; omega)]
    exact ⟨rfl, rfl⟩
theorem pfail_c (e a : Int) : PFun Try.prog 32 [.ptr 0 0, iv e, iv a] [p.b L] (.tup []) [(p.fail e a).b L] := by
  refine fn_sem pok 19 1 Try.func32 (by kernel_rfl) rfl rfl rfl rfl ?_
  refine SWp.go pok (by kernel_rfl) ?_
  unfold Pr.fail
  refine brP_split (fun h1 => ?_) (fun h1 => ?_)
  · rw [if_pos (by simpa using h1)]
    exact ⟨rfl, rfl⟩
  · rw [if_neg (by simpa using h1)]
    exact ⟨rfl, rfl⟩
theorem pis_c (s : Str) (h : p.i < L.length) : PFun Try.prog 58 [.ptr 0 0, sv' s] [p.b L] (.d (.bool (p.is L s))) [p.b L] := by
  refine fn_sem pok 22 1 Try.func58 (by kernel_rfl) rfl rfl rfl rfl ?_
  refine SWp.go pok (by kernel_rfl) ?_
  refine PFun.call (ptok_c h) ?_
  unfold Pr.is
  repeat' (refine brP_split (fun h => ?_) (fun h => ?_))
  all_goals
    refine ⟨dbool ?_, rfl⟩
    simp only [*, Bool.true_or, Bool.or_true, Bool.false_or, Bool.or_false, Bool.true_and, Bool.false_and]
theorem pwant_c (s : Str) (h : p.i < L.length) (hL : L.length < 1073741824) : PFun Try.prog 174 [.ptr 0 0, sv' s] [p.b L] (.tup []) [(p.want L s).b L] := by
  refine fn_sem pok 20 1 Try.func174 (by kernel_rfl) rfl rfl rfl rfl ?_
  refine SWp.go pok (by kernel_rfl) ?_
  unfold Pr.want
  by_cases he : p.err = 0
  · rw [if_pos he]
    refine brP_false (by simpa using he) ?_
    refine PFun.call (pis_c s h) ?_
    by_cases hi : p.is L s = true
    · rw [if_pos hi]
      refine brP_false (by rw [hi]; rfl) ?_
      refine PFun.call (pnext_c h hL) ?_
      exact ⟨rfl, rfl⟩
    · rw [if_neg hi]
      refine brP_true (by simpa using hi) ?_
      refine PFun.call (ptok_c h) ?_
      refine PFun.call (pfail_c 40 (p.tok L).pl) ?_
      exact ⟨rfl, rfl⟩
  · rw [if_neg he]
    refine brP_true (by simpa using he) ?_
    exact ⟨rfl, rfl⟩
theorem pname_c (h : p.i < L.length) (hL : L.length < 1073741824) : PFun Try.prog 173 [.ptr 0 0] [p.b L] (.tup [sv' (p.name L).1.1, iv (p.name L).1.2]) [(p.name L).2.b L] := by
  refine fn_sem pok 32 1 Try.func173 (by kernel_rfl) rfl rfl rfl rfl ?_
  refine SWp.go pok (by kernel_rfl) ?_
  refine PFun.call (ptok_c h) ?_
  unfold Pr.name
  by_cases he : p.err = 0
  · rw [if_pos he]
    refine brP_true (by simpa using he) ?_
    by_cases hi : (p.tok L).kind = 1
    · rw [if_pos hi]
      refine brP_false (by simpa using hi) ?_
      refine brP_false (by simpa using he) ?_
      refine PFun.call (pnext_c h hL) ?_
      exact ⟨rfl, rfl⟩
    · rw [if_neg hi]
      refine brP_true (by simpa using hi) ?_
      refine PFun.call (pfail_c 40 (p.tok L).pl) ?_
      have e : p.fail 40 (p.tok L).pl = ⟨p.i, p.opn, 40, (p.tok L).pl⟩ := by unfold Pr.fail; rw [if_pos he]
      rw [e]
      exact ⟨rfl, rfl⟩
  · rw [if_neg he]
    refine brP_false (by simpa using he) ?_
    refine brP_true (by simpa using he) ?_
    exact ⟨rfl, rfl⟩
theorem popens_c (h : p.i < L.length) : PFun Try.prog 135 [.ptr 0 0] [p.b L] (.tup []) [(p.opens L).b L] := by
  refine fn_sem pok 26 1 Try.func135 (by kernel_rfl) rfl rfl rfl rfl ?_
  refine SWp.go pok (by kernel_rfl) ?_
  unfold Pr.opens
  by_cases he : p.err = 0
  · refine brP_true (by simpa using he) ?_
    by_cases h64 : 64 ≤ p.opn
    · rw [if_pos ⟨he, h64⟩]
      refine brP_true (by simpa using h64) ?_
      refine PFun.call (ptok_c h) ?_
      refine PFun.call (pfail_c 41 (p.tok L).pl) ?_
      have e : p.fail 41 (p.tok L).pl = ⟨p.i, p.opn, 41, (p.tok L).pl⟩ := by unfold Pr.fail; rw [if_pos he]
      rw [e]
      exact ⟨rfl, rfl⟩
    · rw [if_neg (fun e => h64 e.2)]
      refine brP_false (by simp; omega) ?_
      exact ⟨rfl, rfl⟩
  · rw [if_neg (fun e => he e.1)]
    refine brP_false (by simpa using he) ?_
    exact ⟨rfl, rfl⟩
/-! ### beside the program's -/
variable {r : Rd}
theorem Rl.tok (h : Rl L r p) (hc : r.code = 0) : p.tok L = r.hd := by
  obtain ⟨h1, _⟩ := h.good hc
  unfold Pr.tok Rd.hd
  rw [h1, List.drop_eq_getElem_cons h.lt, List.getD_eq_getElem?_getD, List.getElem?_eq_getElem h.lt]; rfl
theorem Rl.tokN (h : Rl L r p) (hc : r.code = 0) : p.tok L = r.next := by rw [h.tok hc]; unfold Rd.next; rw [if_pos hc]
theorem Rl.is (h : Rl L r p) (hc : r.code = 0) (s : Str) : p.is L s = r.is s := by
  unfold Pr.is Rd.is
  rw [h.tokN hc]
theorem Rl.take (h : Rl L r p) (hc : r.code = 0) : Rl L r.take (p.next L) := by
  obtain ⟨h1, h2⟩ := h.good hc
  have hl : r.toks.length = L.length - p.i := by rw [h1, List.length_drop]
  unfold Rd.take Pr.next
  by_cases hm : 1 < r.toks.length
  · rw [if_pos ⟨hc, hm⟩, if_pos (by omega)]
    exact ⟨h.err, h.at_, by show p.i + 1 < _; omega, fun _ => ⟨by show r.toks.tail = _; rw [h1, List.tail_drop], h2⟩⟩
  · rw [if_neg (fun e => hm e.2), if_neg (by omega)]
    exact h
theorem Rl.skip (h : Rl L r p) (hc : r.code ≠ 0) : Rl L r (p.next L) := by
  unfold Pr.next
  split
  · exact ⟨h.err, h.at_, by show p.i + 1 < _; assumption, fun e => absurd e hc⟩
  · exact h
theorem Rl.fail (h : Rl L r p) (hc : r.code = 0) {e : Int} (he : e ≠ 0) : Rl L (r.fail e) (p.fail e (p.tok L).pl) := by
  unfold Rd.fail Pr.fail
  rw [if_pos hc, if_pos (h.err.trans hc), h.tok hc]
  exact ⟨rfl, rfl, h.lt, fun e' => absurd e' he⟩
theorem Rl.want (h : Rl L r p) (s : Str) : Rl L (r.must s) (p.want L s) := by
  unfold Pr.want
  by_cases hc : r.code = 0
  · rw [if_pos (h.err.trans hc), h.is hc]
    unfold Rd.must
    split
    · exact h.take hc
    · exact h.fail hc (by decide)
  · rw [if_neg (fun e => hc (h.err.symm.trans e)), bad_must hc]; exact h
theorem Rl.name (h : Rl L r p) : Rl L r.name.2 (p.name L).2 ∧ r.name.1 = (p.name L).1 := by
  unfold Pr.name
  by_cases hc : r.code = 0
  · rw [if_pos (h.err.trans hc), h.tokN hc]
    unfold Rd.name Rd.of Rd.want
    by_cases hk : r.next.kind = 1
    · rw [if_pos hk, if_pos hk]
      exact ⟨h.take hc, rfl⟩
    · rw [if_neg hk, if_neg hk]
      have hb : (r.fail 40).code ≠ 0 := by unfold Rd.fail; rw [if_pos hc]; show (40 : Int) ≠ 0; decide
      rw [bad_take hb, bad_next hb]
      have := h.fail hc (e := 40) (by decide)
      rw [h.tokN hc] at this
      exact ⟨this, rfl⟩
  · rw [if_neg (fun e => hc (h.err.symm.trans e)), bad_name hc]; exact ⟨h, rfl⟩
theorem Rl.enter (h : Rl L r p) (hok : r.ok) (hc : r.code = 0) : Rl L r.enter ((p.opens L).next L) := by
  obtain ⟨h1, h2⟩ := h.good hc
  have o0 := hok.o0
  have o2 := hok.o2 hc
  have hw : IntKind.i64.wrap (p.opn + 1) = r.opn + 1 := by rw [h2, IntKind.wrap_i64]; omega
  unfold Rd.enter Rd.deep Pr.opens
  by_cases h64 : 64 ≤ r.opn
  · rw [if_pos h64, if_pos ⟨h.err.trans hc, by rw [h2]; exact h64⟩, h.tok hc]
    have e : (r.fail 41) = ⟨41, r.hd.pl, r.toks, r.opn⟩ := by unfold Rd.fail; rw [if_pos hc]
    rw [e]
    have hb : ((Rd.mk 41 r.hd.pl r.toks r.opn).more 1).code ≠ 0 := by show (41 : Int) ≠ 0; decide
    rw [bad_take hb]
    refine Rl.skip ?_ hb
    exact ⟨rfl, rfl, h.lt, fun e => absurd e hb⟩
  · rw [if_neg h64, if_neg (fun e => h64 (by rw [← h2]; exact e.2))]
    refine Rl.take (r := r.more 1) ?_ hc
    exact ⟨h.err, h.at_, h.lt, fun _ => ⟨h1, hw⟩⟩
theorem Rl.leave (h : Rl L r p) (h0 : 0 ≤ r.opn) (h1 : r.opn ≤ 65) : Rl L r.leave p.less :=
  ⟨h.err, h.at_, h.lt, fun hc => ⟨(h.good hc).1, by show IntKind.i64.wrap (p.opn - 1) = r.opn + -1; rw [(h.good hc).2, IntKind.wrap_i64]; omega⟩⟩
end
end Go.Proofs.Ytmflfcbebeikcaa.Q

namespace Go.Proofs.Ytmflfcbebeikcaa.Q
open Go.RowKit
variable [Amb]

abbrev RC (L : List Tk) (f : FuncId) (F : Ex × Rd) (r : Rd) : Prop := ∀ p, Rl L r p → PCalls Try.prog f [.ptr 0 0] [Pr.b L p] (fun res h' => ∃ (x : Ex) (p' : Pr), res = x.v ∧ h' = [Pr.b L p'] ∧ Rl L F.2 p' ∧ (F.2.code = 0 → x = F.1))
/-- A relation, no ! ahead. -/
def Rd.rel (r : Rd) : Ex × Rd := (r.bin 3).2.loop 2 (r.bin 3).1
structure RT (L : List Tk) (r : Rd) : Prop where
  term : RC L 171 r.term r
  sum : RC L 158 (r.bin 3) r
  rel : RC L 136 r.rel r
  neg : RC L 98 (r.bin 2) r
  conj : RC L 57 (r.bin 1) r
  expr : RC L 30 (r.bin 0) r
theorem Ex.v_one (op : Int) (mon name : Str) (n pl : Int) (y : Ex) : V.agg [iv op, sv' mon, sv' name, iv n, .d (.sl [y.row]), iv pl] = (Ex.mk op mon name n [y] pl).v := by
  unfold Ex.v; rw [List.map_cons, List.map_nil, Ex.e_row]
theorem Ex.v_two (op : Int) (mon name : Str) (n pl : Int) (y z : Ex) : V.agg [iv op, sv' mon, sv' name, iv n, .d (.sl [y.row, z.row]), iv pl] = (Ex.mk op mon name n [y, z] pl).v := by
  unfold Ex.v; rw [List.map_cons, List.map_cons, List.map_nil, Ex.e_row, Ex.e_row]
theorem Rd.ok.opn65 {r : Rd} (h : r.ok) : 0 ≤ r.opn ∧ r.opn ≤ 65 := ⟨h.o0, h.o1⟩
section
variable {L : List Tk} (hL : L.length < 1073741824)
theorem rterm_c {L : List Tk} (hL : L.length < 1073741824) {r : Rd} (h : r.ok) (ih : ∀ r' : Rd, r'.ok → r'.m < r.m → RT L r') : RC L 171 r.term r := by
  intro p hp
  refine fn_sem pok 117 1 Try.func171 (by kernel_rfl) rfl rfl rfl rfl ?_
  refine SWp.go pok (by kernel_rfl) ?_
  refine PFun.call (ptok_c hp.lt) ?_
  by_cases hc : r.code = 0
  case neg =>
    refine brP_true (by rw [hp.err]; simpa using hc) ?_
    exact ⟨⟨0, [], [], 0, [], (p.tok L).pl⟩, p, rfl, rfl, by rw [bad_term hc]; exact hp, fun e => absurd e (by rw [bad_term hc]; exact hc)⟩
  refine brP_false (by rw [hp.err]; simpa using hc) ?_
  have ht := hp.tokN hc
  have hT := Rd.term_eq h
  rw [ht]
  by_cases hk : r.next.kind = 2
  · rw [if_pos hk] at hT
    obtain ⟨d1, d2⟩ := Rd.next_code (by decide) hk
    obtain ⟨t1, t2⟩ := h.takes hc (by rw [d2]; decide)
    have hp1 := hp.take hc
    refine brP_true (by simpa using hk) ?_
    refine PFun.call (pnext_c hp.lt hL) ?_
    refine PFun.call (pis_c [42] hp1.lt) ?_
    by_cases hs : r.take.is [42] = true
    · rw [if_pos hs] at hT
      obtain ⟨e1, e2⟩ := h.take.ok.entM hs
      have hp2 := hp1.enter h.take.ok t2
      have hto := e1.term
      refine brP_true (by rw [hp1.is t2]; exact hs) ?_
      refine PFun.call (popens_c hp1.lt) ?_
      have hlt2 : (Pr.opens L (p.next L)).i < L.length := by unfold Pr.opens; split <;> exact hp1.lt
      refine PFun.call (pnext_c hlt2 hL) ?_
      refine PCalls.mono ((ih r.take.enter e1 (by omega)).term _ hp2) ?_
      rintro res h' ⟨x, p', rfl, rfl, hR, hx⟩
      rw [hT]
      refine ⟨⟨7, [], [], r.next.n, [x], r.next.pl⟩, p'.less, Ex.v_one .., rfl, hR.leave hto.ok.o0 hto.ok.o1, fun e => ?_⟩
      rw [hx e]
    · rw [if_neg hs] at hT
      refine brP_false (by rw [hp1.is t2]; simpa using hs) ?_
      rw [hT]
      exact ⟨⟨1, [], [], r.next.n, [], r.next.pl⟩, _, rfl, rfl, hp1, fun _ => rfl⟩
  rw [if_neg hk] at hT
  refine brP_false (by simpa using hk) ?_
  refine PFun.call (pis_c [45] hp.lt) ?_
  by_cases hs : r.is [45] = true
  · have hk1 : ¬ r.next.kind = 1 := by
      obtain ⟨_, c2, _⟩ := Rd.is_code hs
      have e : r.next = r.hd := by unfold Rd.next; rw [if_pos hc]
      rw [e]; omega
    rw [if_neg hk1, if_pos hs] at hT
    obtain ⟨e1, e2⟩ := h.entM hs
    have hp2 := hp.enter h hc
    have hto := e1.term
    refine brP_true (by rw [hp.is hc]; exact hs) ?_
    refine PFun.call (popens_c hp.lt) ?_
    have hlt2 : (Pr.opens L p).i < L.length := by unfold Pr.opens; split <;> exact hp.lt
    refine PFun.call (pnext_c hlt2 hL) ?_
    refine PCalls.mono ((ih r.enter e1 e2).term _ hp2) ?_
    rintro res h' ⟨x, p', rfl, rfl, hR, hx⟩
    rw [hT]
    refine ⟨⟨6, [], [], 0, [x], r.next.pl⟩, p'.less, Ex.v_one .., rfl, hR.leave hto.ok.o0 hto.ok.o1, fun e => ?_⟩
    rw [hx e]
  refine brP_false (by rw [hp.is hc]; simpa using hs) ?_
  rw [if_neg hs] at hT
  refine PFun.call (pis_c [116, 114, 117, 101] hp.lt) ?_
  by_cases hs2 : r.is [116, 114, 117, 101] = true
  · obtain ⟨_, c2, c3⟩ := Rd.is_code hs2
    have e : r.next = r.hd := by unfold Rd.next; rw [if_pos hc]
    have hk1 : ¬ r.next.kind = 1 := by rw [e]; omega
    have hno : ¬ r.is [40] = true := fun e => by obtain ⟨_, _, c4⟩ := Rd.is_code e; rw [c3] at c4; exact absurd c4 (by decide)
    rw [if_neg hk1, if_neg hno, if_pos hs2] at hT
    refine brP_true (by rw [hp.is hc]; exact hs2) ?_
    refine PFun.call (pnext_c hp.lt hL) ?_
    rw [hT]
    exact ⟨⟨2, [], [], 0, [], r.next.pl⟩, _, rfl, rfl, hp.take hc, fun _ => rfl⟩
  refine brP_false (by rw [hp.is hc]; simpa using hs2) ?_
  rw [if_neg hs2] at hT
  refine PFun.call (pis_c [102, 97, 108, 115, 101] hp.lt) ?_
  by_cases hs3 : r.is [102, 97, 108, 115, 101] = true
  · obtain ⟨_, c2, c3⟩ := Rd.is_code hs3
    have e : r.next = r.hd := by unfold Rd.next; rw [if_pos hc]
    have hk1 : ¬ r.next.kind = 1 := by rw [e]; omega
    have hno : ¬ r.is [40] = true := fun e => by obtain ⟨_, _, c4⟩ := Rd.is_code e; rw [c3] at c4; exact absurd c4 (by decide)
    rw [if_neg hk1, if_neg hno, if_pos hs3] at hT
    refine brP_true (by rw [hp.is hc]; exact hs3) ?_
    refine PFun.call (pnext_c hp.lt hL) ?_
    rw [hT]
    exact ⟨⟨3, [], [], 0, [], r.next.pl⟩, _, rfl, rfl, hp.take hc, fun _ => rfl⟩
  refine brP_false (by rw [hp.is hc]; simpa using hs3) ?_
  rw [if_neg hs3] at hT
  by_cases hk1 : r.next.kind = 1
  · rw [if_pos hk1] at hT
    refine brP_true (by simpa using hk1) ?_
    obtain ⟨n1, n2⟩ := hp.name
    refine PFun.call (pname_c hp.lt hL) ?_
    have w := n1.want [46]
    refine PFun.call (pwant_c [46] n1.lt hL) ?_
    obtain ⟨m1, m2⟩ := w.name
    refine PFun.call (pname_c w.lt hL) ?_
    rw [hT]
    exact ⟨⟨4, (p.name L).1.1, (Pr.name L (Pr.want L (p.name L).2 [46])).1.1, 0, [], r.next.pl⟩, _, rfl, rfl, m1, fun _ => by unfold Rd.pair; rw [← n2, ← m2]⟩
  rw [if_neg hk1] at hT
  refine brP_false (by simpa using hk1) ?_
  refine PFun.call (pis_c [40] hp.lt) ?_
  by_cases hs4 : r.is [40] = true
  · rw [if_pos hs4] at hT
    obtain ⟨e1, e2⟩ := h.entM hs4
    have hp2 := hp.enter h hc
    have hto := e1.bin 0
    refine brP_true (by rw [hp.is hc]; exact hs4) ?_
    refine PFun.call (popens_c hp.lt) ?_
    have hlt2 : (Pr.opens L p).i < L.length := by unfold Pr.opens; split <;> exact hp.lt
    refine PFun.call (pnext_c hlt2 hL) ?_
    refine PCalls.mono ((ih r.enter e1 e2).expr _ hp2) ?_
    rintro res h' ⟨x, p', rfl, rfl, hR, hx⟩
    have w := hR.want [41]
    refine PFun.call (pwant_c [41] hR.lt hL) ?_
    rw [hT]
    refine ⟨x, (Pr.want L p' [41]).less, rfl, rfl, w.leave hto.ok.must.ok.o0 hto.ok.must.ok.o1, fun e => ?_⟩
    exact hx (code_of (fun e' => bad_must e' _) e)
  rw [if_neg hs4] at hT
  refine brP_false (by rw [hp.is hc]; simpa using hs4) ?_
  refine PFun.call (pfail_c 40 r.next.pl) ?_
  rw [hT]
  have hf := hp.fail hc (e := 40) (by decide)
  rw [ht] at hf
  refine ⟨⟨0, [], [], 0, [], r.next.pl⟩, _, rfl, rfl, hf, fun e => ?_⟩
  unfold Rd.fail at e
  rw [if_pos hc] at e
  exact absurd e (by show ¬ (40 : Int) = 0; decide)
end
end Go.Proofs.Ytmflfcbebeikcaa.Q

namespace Go.Proofs.Ytmflfcbebeikcaa.Q
open Go.RowKit
variable [Amb]
theorem oper_one {r : Rd} {s : Str} {op : Int} (h : r.is s = true) : r.oper [(s, op)] = ((op, true), r.take) := by rw [Rd.oper, if_pos h]
theorem oper_no {r : Rd} {s : Str} {op : Int} (h : ¬ r.is s = true) : r.oper [(s, op)] = ((0, false), r) := by rw [Rd.oper, if_neg h]; rfl
/-- How the loop over operators stands. -/
structure LoopI (L : List Tk) (lv : Nat) (F : Ex × Rd) (m : Nat) (e : Ex) (r : Rd) (p : Pr) : Prop where
  ok : r.ok
  rl : Rl L r p
  m : r.m ≤ m
  ex : ∃ e', F = r.loop lv e' ∧ (r.code = 0 → e = e')
theorem LoopI.stop {L : List Tk} {lv : Nat} {F : Ex × Rd} {m : Nat} {e : Ex} {r : Rd} {p : Pr} (h : LoopI L lv F m e r p) (hlv : lv ≤ 3) (hno : r.code = 0 → (r.oper (lvl lv)) = ((0, false), r)) : Rl L F.2 p ∧ (F.2.code = 0 → e = F.1) := by
  obtain ⟨e', h1, h2⟩ := h.ex
  by_cases hc : r.code = 0
  · have : F = (e', r) := by rw [h1, Rd.loop_eq h.ok hlv, hno hc, if_neg (by simp)]
    rw [this]
    exact ⟨h.rl, fun _ => h2 hc⟩
  · rw [h1, bad_loop hc]
    exact ⟨h.rl, fun e => absurd e hc⟩

theorem rsum_c {L : List Tk} (hL : L.length < 1073741824) {r : Rd} (h : r.ok) (ih : ∀ r' : Rd, r'.ok → r'.m < r.m → RT L r') (hs : RC L 171 (r.bin 4) r) : RC L 158 (r.bin 3) r := by
  intro p hp
  have hB := Rd.bin_eq h (lv := 3) (by decide) (fun e => absurd e.1 (by decide))
  refine fn_sem pok 35 1 Try.func158 (by kernel_rfl) rfl rfl rfl rfl ?_
  refine SWp.go pok (by kernel_rfl) ?_
  refine PCalls.mono (hs p hp) ?_
  rintro res h' ⟨x, p0, rfl, rfl, hR, hx⟩
  have hto := h.bin 4
  refine SWp.loop (fun q : Ex × Rd × Pr => LoopI L 3 (r.bin 3) r.m q.1 q.2.1 q.2.2) (fun q => ([(0, .ptr 0 0), (2, .ptr 1 0), (3, .ptr 2 0)], [Pr.b L q.2.2, .box (eB 0 [] 0), .box q.1.cells])) (fun q => q.2.1.m) (x, (r.bin 4).2, p0) ⟨hto.ok, hR, hto.m, _, hB, hx⟩ (Le.same ⟨rfl, rfl, rfl, trivial⟩) (fun q hq => ?_)
  obtain ⟨e, r1, p1⟩ := q
  dsimp only at hq
  refine SWp.go pok (by kernel_rfl) ?_
  by_cases hc : r1.code = 0
  case neg =>
    refine brP_false (by rw [hq.rl.err]; simpa using hc) ?_
    obtain ⟨k1, k2⟩ := hq.stop (by decide) (fun e => absurd e hc)
    exact ⟨e, p1, rfl, rfl, k1, k2⟩
  refine brP_true (by rw [hq.rl.err]; simpa using hc) ?_
  refine PFun.call (pis_c [43] hq.rl.lt) ?_
  by_cases hi : r1.is [43] = true
  · have hb : p1.is L [43] = true := by rw [hq.rl.is hc]; exact hi
    repeat refine brP_true hb ?_
    have hno : ¬ r1.is [45] = true := fun e => by
      obtain ⟨_, _, c3⟩ := Rd.is_code hi
      obtain ⟨_, _, c4⟩ := Rd.is_code e
      rw [c3] at c4; exact absurd c4 (by decide)
    have hop : r1.oper (lvl 3) = ((8, true), r1.take) := by show r1.oper [([43], 8), ([45], 9)] = _; rw [Rd.oper, if_pos hi]
    obtain ⟨e', k1, k2⟩ := hq.ex
    rw [Rd.loop_eq hq.ok (by decide), hop, if_pos rfl, if_neg (by decide)] at k1
    dsimp only at k1
    have tk := hq.rl.take hc
    obtain ⟨t1, t2⟩ := hq.ok.isTake hi
    have hm := hq.m
    refine PFun.call (pis_c [45] hq.rl.lt) ?_
    refine brP_false (by rw [hq.rl.is hc]; simpa using hno) ?_
    refine PFun.call (pnext_c hq.rl.lt hL) ?_
    refine PCalls.mono ((ih r1.take hq.ok.take.ok (by omega)).term _ tk) ?_
    rintro res h' ⟨y, p2, rfl, rfl, hR2, hy⟩
    have ht2 := hq.ok.take.ok.term
    have hm2 := ht2.m
    refine ⟨(⟨8, [], [], 0, [e, y], e.pl⟩, (r1.take.term).2, p2), ⟨ht2.ok, hR2, by dsimp only; omega, _, k1.trans (by rw [Rd.bin4 hq.ok.take.ok]), fun hc2 => ?_⟩, by dsimp only; omega, .inr ⟨[0, 1, 2], ⟨rfl, rfl⟩, ?_, rfl, rfl, rfl, trivial⟩⟩
    · dsimp only
      rw [k2 hc, hy hc2]
    · unfold Ex.cells
      simp only [List.map_cons, List.map_nil, Ex.e_row]
      rfl
  have hb : p1.is L [43] = false := by rw [hq.rl.is hc]; simpa using hi
  have hno1 := hi
  clear hi
  repeat refine brP_false hb ?_
  refine PFun.call (pis_c [45] hq.rl.lt) ?_
  by_cases hi : r1.is [45] = true
  · have hb2 : p1.is L [45] = true := by rw [hq.rl.is hc]; exact hi
    repeat (first | refine brP_true hb2 ?_ | refine brP_false hb ?_)
    have hop : r1.oper (lvl 3) = ((9, true), r1.take) := by show r1.oper [([43], 8), ([45], 9)] = _; rw [Rd.oper, if_neg hno1, Rd.oper, if_pos hi]
    obtain ⟨e', k1, k2⟩ := hq.ex
    rw [Rd.loop_eq hq.ok (by decide), hop, if_pos rfl, if_neg (by decide)] at k1
    dsimp only at k1
    have tk := hq.rl.take hc
    obtain ⟨t1, t2⟩ := hq.ok.isTake hi
    have hm := hq.m
    refine PFun.call (pis_c [45] hq.rl.lt) ?_
    refine brP_true hb2 ?_
    refine PFun.call (pnext_c hq.rl.lt hL) ?_
    refine PCalls.mono ((ih r1.take hq.ok.take.ok (by omega)).term _ tk) ?_
    rintro res h' ⟨y, p2, rfl, rfl, hR2, hy⟩
    have ht2 := hq.ok.take.ok.term
    have hm2 := ht2.m
    refine ⟨(⟨9, [], [], 0, [e, y], e.pl⟩, (r1.take.term).2, p2), ⟨ht2.ok, hR2, by dsimp only; omega, _, k1.trans (by rw [Rd.bin4 hq.ok.take.ok]), fun hc2 => ?_⟩, by dsimp only; omega, .inr ⟨[0, 1, 2], ⟨rfl, rfl⟩, ?_, rfl, rfl, rfl, trivial⟩⟩
    · dsimp only
      rw [k2 hc, hy hc2]
    · unfold Ex.cells
      simp only [List.map_cons, List.map_nil, Ex.e_row]
      rfl
  · have hb2 : p1.is L [45] = false := by rw [hq.rl.is hc]; simpa using hi
    repeat (first | refine brP_false hb2 ?_ | refine brP_false hb ?_)
    obtain ⟨k1, k2⟩ := hq.stop (by decide) (fun _ => by show r1.oper [([43], 8), ([45], 9)] = _; rw [Rd.oper, if_neg hno1, Rd.oper, if_neg hi]; rfl)
    exact ⟨e, p1, rfl, rfl, k1, k2⟩
theorem rconj_c {L : List Tk} (hL : L.length < 1073741824) {r : Rd} (h : r.ok) (ih : ∀ r' : Rd, r'.ok → r'.m < r.m → RT L r') (hs : RC L 98 (r.bin 2) r) : RC L 57 (r.bin 1) r := by
  intro p hp
  have hB := Rd.bin_eq h (lv := 1) (by decide) (fun e => absurd e.1 (by decide))
  refine fn_sem pok 27 1 Try.func57 (by kernel_rfl) rfl rfl rfl rfl ?_
  refine SWp.go pok (by kernel_rfl) ?_
  refine PCalls.mono (hs p hp) ?_
  rintro res h' ⟨x, p0, rfl, rfl, hR, hx⟩
  have hto := h.bin 2
  refine SWp.loop (fun q : Ex × Rd × Pr => LoopI L 1 (r.bin 1) r.m q.1 q.2.1 q.2.2) (fun q => ([(0, .ptr 0 0), (2, .ptr 1 0), (3, .ptr 2 0)], [Pr.b L q.2.2, .box (eB 0 [] 0), .box q.1.cells])) (fun q => q.2.1.m) (x, (r.bin 2).2, p0) ⟨hto.ok, hR, hto.m, _, hB, hx⟩ (Le.same ⟨rfl, rfl, rfl, trivial⟩) (fun q hq => ?_)
  obtain ⟨e, r1, p1⟩ := q
  dsimp only at hq
  refine SWp.go pok (by kernel_rfl) ?_
  by_cases hc : r1.code = 0
  case neg =>
    refine brP_false (by rw [hq.rl.err]; simpa using hc) ?_
    obtain ⟨k1, k2⟩ := hq.stop (by decide) (fun e => absurd e hc)
    exact ⟨e, p1, rfl, rfl, k1, k2⟩
  refine brP_true (by rw [hq.rl.err]; simpa using hc) ?_
  refine PFun.call (pis_c [38, 38] hq.rl.lt) ?_
  by_cases hi : r1.is [38, 38] = true
  · refine brP_true (by rw [hq.rl.is hc]; exact hi) ?_
    have hop : r1.oper (lvl 1) = ((16, true), r1.take) := oper_one hi
    obtain ⟨e', k1, k2⟩ := hq.ex
    rw [Rd.loop_eq hq.ok (by decide), hop, if_pos rfl, if_neg (by decide)] at k1
    dsimp only at k1
    have tk := hq.rl.take hc
    obtain ⟨t1, t2⟩ := hq.ok.isTake hi
    have hm := hq.m
    refine PFun.call (pnext_c hq.rl.lt hL) ?_
    refine PCalls.mono ((ih r1.take hq.ok.take.ok (by omega)).neg _ tk) ?_
    rintro res h' ⟨y, p2, rfl, rfl, hR2, hy⟩
    have ht2 := hq.ok.take.ok.bin 2
    have hm2 := ht2.m
    refine ⟨(⟨16, [], [], 0, [e, y], e.pl⟩, (r1.take.bin 2).2, p2), ⟨ht2.ok, hR2, by dsimp only; omega, _, k1, fun hc2 => ?_⟩, by dsimp only; omega, .inr ⟨[0, 1, 2], ⟨rfl, rfl⟩, ?_, rfl, rfl, rfl, trivial⟩⟩
    · dsimp only
      rw [k2 hc, hy hc2]
    · unfold Ex.cells
      simp only [List.map_cons, List.map_nil, Ex.e_row]
      rfl
  · refine brP_false (by rw [hq.rl.is hc]; simpa using hi) ?_
    obtain ⟨k1, k2⟩ := hq.stop (by decide) (fun _ => oper_no hi)
    exact ⟨e, p1, rfl, rfl, k1, k2⟩
theorem rexpr_c {L : List Tk} (hL : L.length < 1073741824) {r : Rd} (h : r.ok) (ih : ∀ r' : Rd, r'.ok → r'.m < r.m → RT L r') (hs : RC L 57 (r.bin 1) r) : RC L 30 (r.bin 0) r := by
  intro p hp
  have hB := Rd.bin_eq h (lv := 0) (by decide) (fun e => absurd e.1 (by decide))
  refine fn_sem pok 27 1 Try.func30 (by kernel_rfl) rfl rfl rfl rfl ?_
  refine SWp.go pok (by kernel_rfl) ?_
  refine PCalls.mono (hs p hp) ?_
  rintro res h' ⟨x, p0, rfl, rfl, hR, hx⟩
  have hto := h.bin 1
  refine SWp.loop (fun q : Ex × Rd × Pr => LoopI L 0 (r.bin 0) r.m q.1 q.2.1 q.2.2) (fun q => ([(0, .ptr 0 0), (2, .ptr 1 0), (3, .ptr 2 0)], [Pr.b L q.2.2, .box (eB 0 [] 0), .box q.1.cells])) (fun q => q.2.1.m) (x, (r.bin 1).2, p0) ⟨hto.ok, hR, hto.m, _, hB, hx⟩ (Le.same ⟨rfl, rfl, rfl, trivial⟩) (fun q hq => ?_)
  obtain ⟨e, r1, p1⟩ := q
  dsimp only at hq
  refine SWp.go pok (by kernel_rfl) ?_
  by_cases hc : r1.code = 0
  case neg =>
    refine brP_false (by rw [hq.rl.err]; simpa using hc) ?_
    obtain ⟨k1, k2⟩ := hq.stop (by decide) (fun e => absurd e hc)
    exact ⟨e, p1, rfl, rfl, k1, k2⟩
  refine brP_true (by rw [hq.rl.err]; simpa using hc) ?_
  refine PFun.call (pis_c [124, 124] hq.rl.lt) ?_
  by_cases hi : r1.is [124, 124] = true
  · refine brP_true (by rw [hq.rl.is hc]; exact hi) ?_
    have hop : r1.oper (lvl 0) = ((17, true), r1.take) := oper_one hi
    obtain ⟨e', k1, k2⟩ := hq.ex
    rw [Rd.loop_eq hq.ok (by decide), hop, if_pos rfl, if_neg (by decide)] at k1
    dsimp only at k1
    have tk := hq.rl.take hc
    obtain ⟨t1, t2⟩ := hq.ok.isTake hi
    have hm := hq.m
    refine PFun.call (pnext_c hq.rl.lt hL) ?_
    refine PCalls.mono ((ih r1.take hq.ok.take.ok (by omega)).conj _ tk) ?_
    rintro res h' ⟨y, p2, rfl, rfl, hR2, hy⟩
    have ht2 := hq.ok.take.ok.bin 1
    have hm2 := ht2.m
    refine ⟨(⟨17, [], [], 0, [e, y], e.pl⟩, (r1.take.bin 1).2, p2), ⟨ht2.ok, hR2, by dsimp only; omega, _, k1, fun hc2 => ?_⟩, by dsimp only; omega, .inr ⟨[0, 1, 2], ⟨rfl, rfl⟩, ?_, rfl, rfl, rfl, trivial⟩⟩
    · dsimp only
      rw [k2 hc, hy hc2]
    · unfold Ex.cells
      simp only [List.map_cons, List.map_nil, Ex.e_row]
      rfl
  · refine brP_false (by rw [hq.rl.is hc]; simpa using hi) ?_
    obtain ⟨k1, k2⟩ := hq.stop (by decide) (fun _ => oper_no hi)
    exact ⟨e, p1, rfl, rfl, k1, k2⟩
end Go.Proofs.Ytmflfcbebeikcaa.Q

namespace Go.Proofs.Ytmflfcbebeikcaa.Q
open Go.RowKit
variable [Amb]

theorem lvl2_get : ∀ k : Nat, k < 6 → ∃ s : Str, (lvl 2)[k]? = some (s, (10 : Int) + k) ∧ ([[61, 61], [33, 61], [60], [60, 61], [62], [62, 61]] : List Str)[k]? = some s
  | 0, _ => ⟨_, rfl, rfl⟩
  | 1, _ => ⟨_, rfl, rfl⟩
  | 2, _ => ⟨_, rfl, rfl⟩
  | 3, _ => ⟨_, rfl, rfl⟩
  | 4, _ => ⟨_, rfl, rfl⟩
  | 5, _ => ⟨_, rfl, rfl⟩
  | n + 6, h => by omega
theorem rrel_c {L : List Tk} (hL : L.length < 1073741824) {r : Rd} (h : r.ok) (ih : ∀ r' : Rd, r'.ok → r'.m < r.m → RT L r') (hs : RC L 158 (r.bin 3) r) : RC L 136 r.rel r := by
  intro p hp
  refine fn_sem pok 42 1 Try.func136 (by kernel_rfl) rfl rfl rfl rfl ?_
  refine SWp.go pok (by kernel_rfl) ?_
  refine PCalls.mono (hs p hp) ?_
  rintro res h' ⟨x, p0, rfl, rfl, hR, hx⟩
  have hto := h.bin 3
  have hle := Rd.loop_eq hto.ok (lv := 2) (by decide) (r.bin 3).1
  unfold Rd.rel
  generalize r.bin 3 = q at hR hx hto hle ⊢
  obtain ⟨e0, r1⟩ := q
  dsimp only at hR hx hto hle ⊢
  refine SWp.loop (fun k : Nat => k ≤ 6 ∧ r1.oper ((lvl 2).drop k) = r1.oper (lvl 2)) (fun k => ([(0, .ptr 0 0), (2, .ptr 1 0), (3, .ptr 2 0), (4, .fsl (([[61, 61], [33, 61], [60], [60, 61], [62], [62, 61]] : List Str).map scell)), (5, iv k)], [Pr.b L p0, .box (eB 0 [] 0), .box x.cells])) (fun k => 6 - k) 0 ⟨Nat.zero_le _, rfl⟩ (Le.same ⟨rfl, rfl, rfl, rfl, rfl, trivial⟩) (fun k hk => ?_)
  obtain ⟨hk6, hk⟩ := hk
  have hw1 : IntKind.i64.wrap ((k : Int) + 1) = ((k + 1 : Nat) : Int) := wrap_nat k (by omega)
  have l2 : (lvl 2).length = 6 := rfl
  refine SWp.go pok (by kernel_rfl) ?_
  refine brP_split (fun hlt => ?_) (fun hlt => ?_)
  · have hlt : k < 6 := by simp at hlt; omega
    obtain ⟨s, g1, g2⟩ := lvl2_get k hlt
    have hat := oper_at (r := r1) (l := lvl 2) (k := k) (by rw [l2]; exact hlt)
    have hgk : (lvl 2)[k]'(by rw [l2]; exact hlt) = (s, (10 : Int) + k) := by
      rw [List.getElem?_eq_getElem (by rw [l2]; exact hlt)] at g1
      injection g1
    rw [hgk] at hat
    dsimp only at hat
    by_cases hc : r1.code = 0
    case neg =>
      refine brP_false (by rw [hR.err]; simpa using hc) ?_
      rw [if_neg (bad_is hc _)] at hat
      exact ⟨k + 1, ⟨hlt, hat.symm.trans hk⟩, by omega, .inr ⟨[0, 1, 2], ⟨rfl, rfl⟩, rfl, rfl, rfl, rfl, rfl, sint hw1, trivial⟩⟩
    refine brP_true (by rw [hR.err]; simpa using hc) ?_
    refine PIdx.map g2 ?_
    refine PFun.call (pis_c s hR.lt) ?_
    by_cases hi : r1.is s = true
    · rw [if_pos hi, hk] at hat
      refine brP_true (by rw [hR.is hc]; exact hi) ?_
      rw [hat, if_pos rfl, if_pos (by rfl : (lvls.getD 2 ([], false)).2 = true)] at hle
      dsimp only at hle
      have tk := hR.take hc
      obtain ⟨t1, t2⟩ := hto.ok.isTake hi
      have hm := hto.m
      refine PFun.call (pnext_c hR.lt hL) ?_
      refine PCalls.mono ((ih r1.take hto.ok.take.ok (by omega)).sum _ tk) ?_
      rintro res h' ⟨y, p2, rfl, rfl, hR2, hy⟩
      have hw : IntKind.i64.wrap ((10 : Int) + k) = 10 + k := by rw [IntKind.wrap_i64]; omega
      refine ⟨⟨10 + k, [], [], 0, [x, y], x.pl⟩, p2, ?_, rfl, by rw [hle]; exact hR2, fun hc2 => ?_⟩
      · rw [← Ex.v_two, hw]; rfl
      · rw [hle] at hc2 ⊢
        dsimp only at hc2 ⊢
        rw [hx hc, hy hc2]
    · rw [if_neg hi] at hat
      refine brP_false (by rw [hR.is hc]; simpa using hi) ?_
      exact ⟨k + 1, ⟨hlt, hat.symm.trans hk⟩, by omega, .inr ⟨[0, 1, 2], ⟨rfl, rfl⟩, rfl, rfl, rfl, rfl, rfl, sint hw1, trivial⟩⟩
  · have hk' : (lvl 2).drop k = [] := List.drop_of_length_le (by rw [l2]; simp at hlt; omega)
    rw [hk'] at hk
    rw [← hk, show r1.oper [] = ((0, false), r1) from rfl, if_neg (by simp)] at hle
    refine ⟨x, p0, rfl, rfl, by rw [hle]; exact hR, fun hc2 => ?_⟩
    rw [hle] at hc2 ⊢
    exact hx hc2
theorem rneg_c {L : List Tk} (hL : L.length < 1073741824) {r : Rd} (h : r.ok) (ih : ∀ r' : Rd, r'.ok → r'.m < r.m → RT L r') (hs : RC L 136 r.rel r) : RC L 98 (r.bin 2) r := by
  intro p hp
  refine fn_sem pok 36 1 Try.func98 (by kernel_rfl) rfl rfl rfl rfl ?_
  refine SWp.go pok (by kernel_rfl) ?_
  by_cases hc : r.code = 0
  · refine brP_true (by rw [hp.err]; simpa using hc) ?_
    refine PFun.call (pis_c [33] hp.lt) ?_
    by_cases hi : r.is [33] = true
    · have hB := Rd.binNot h hi
      obtain ⟨e1, e2⟩ := h.entM hi
      have hp2 := hp.enter h hc
      have hto := e1.bin 2
      refine brP_true (by rw [hp.is hc]; exact hi) ?_
      refine PFun.call (ptok_c hp.lt) ?_
      refine PFun.call (popens_c hp.lt) ?_
      have hlt2 : (Pr.opens L p).i < L.length := by unfold Pr.opens; split <;> exact hp.lt
      refine PFun.call (pnext_c hlt2 hL) ?_
      refine PCalls.mono ((ih r.enter e1 e2).neg _ hp2) ?_
      rintro res h' ⟨x, p', rfl, rfl, hR, hx⟩
      rw [hB, hp.tokN hc]
      refine ⟨⟨5, [], [], 0, [x], r.next.pl⟩, p'.less, Ex.v_one .., rfl, hR.leave hto.ok.o0 hto.ok.o1, fun e => ?_⟩
      rw [hx e]
    · have hB : r.bin 2 = r.rel := Rd.bin_eq h (lv := 2) (by decide) (fun e => hi e.2)
      refine brP_false (by rw [hp.is hc]; simpa using hi) ?_
      rw [hB]
      refine PCalls.mono (hs p hp) ?_
      rintro res h' ⟨x, p', rfl, rfl, hR, hx⟩
      exact ⟨x, p', rfl, rfl, hR, hx⟩
  · have hB : r.bin 2 = r.rel := Rd.bin_eq h (lv := 2) (by decide) (fun e => bad_is hc _ e.2)
    refine brP_false (by rw [hp.err]; simpa using hc) ?_
    rw [hB]
    refine PCalls.mono (hs p hp) ?_
    rintro res h' ⟨x, p', rfl, rfl, hR, hx⟩
    exact ⟨x, p', rfl, rfl, hR, hx⟩
theorem rt_all {L : List Tk} (hL : L.length < 1073741824) : ∀ (n : Nat) (r : Rd), r.m = n → r.ok → RT L r := by
  intro n
  induction n using Nat.strongRecOn with
  | _ n ih =>
    intro r hn h
    have ih' : ∀ r' : Rd, r'.ok → r'.m < r.m → RT L r' := fun r' h' hm => ih r'.m (by omega) r' rfl h'
    have t := rterm_c hL h ih'
    have s := rsum_c hL h ih' (by rw [Rd.bin4 h]; exact t)
    have l := rrel_c hL h ih' s
    have g := rneg_c hL h ih' l
    have c := rconj_c hL h ih' g
    exact ⟨t, s, l, g, c, rexpr_c hL h ih' c⟩
theorem scanS_end {s : Str} (h : (scanS s).2.1 = 0) : 0 < (scanS s).1.length := (scanS_ok h).ne
/-- The reference's expression of a text is the program's. -/
theorem refExpr_c (s : Str) (hs : s.length < 1073741824) : PFun Try.prog 14 [sv' s] [] (.tup [(exprS s).1.v, iv (exprS s).2.1, iv (exprS s).2.2]) [] := by
  refine fn_sem pok 57 0 Try.func14 (by kernel_rfl) rfl rfl rfl rfl ?_
  refine SWp.go pok (by kernel_rfl) ?_
  have hok := scanS_ok (s := s)
  refine PFun.call (refScan_c s hs) ?_
  unfold exprS
  generalize scanS s = q at hok ⊢
  obtain ⟨l, e, a⟩ := q
  dsimp only at hok ⊢
  refine brP_split (fun h => ?_) (fun h => ?_)
  · rw [if_neg (by simpa using h)]
    exact fin1 rfl
  · have h : e = 0 := by simpa using h
    rw [if_pos h]
    have hok := hok h
    have he := hok.expr
    have h0 : Rl l (Rd.mk 0 0 l 0) ⟨0, 0, 0, 0⟩ := ⟨rfl, rfl, hok.ne, fun _ => ⟨rfl, rfl⟩⟩
    have hrt := (rt_all hok.len _ (Rd.mk 0 0 l 0) rfl hok).expr _ h0
    rw [← Rd.expr_bin] at hrt
    refine PCalls.mono hrt ?_
    rintro res h' ⟨x, p', rfl, rfl, hR, hx⟩
    generalize (Rd.mk 0 0 l 0).expr = q2 at he hR hx ⊢
    obtain ⟨y, r2⟩ := q2
    dsimp only at he hR hx ⊢
    by_cases hc : r2.code = 0
    · refine brP_true (by rw [hR.err]; simpa using hc) ?_
      refine PFun.call (ptok_c hR.lt) ?_
      have htn := hR.tokN hc
      unfold Rd.of Rd.want
      by_cases h5 : r2.next.kind = 5
      · rw [if_pos h5]
        have hcc : r2.take.code = 0 := by unfold Rd.take; split <;> exact hc
        dsimp only
        rw [if_pos hcc]
        refine brP_false (by rw [htn]; simpa using h5) ?_
        refine brP_false (by rw [hR.err]; simpa using hc) ?_
        refine fin1 ?_
        rw [hx hc]; rfl
      · rw [if_neg h5]
        have hf := hR.fail hc (e := 40) (by decide)
        have hc40 : (r2.fail 40).code = 40 := by unfold Rd.fail; rw [if_pos hc]
        have hbad : (r2.fail 40).code ≠ 0 := by rw [hc40]; decide
        dsimp only
        rw [bad_take hbad, if_neg hbad]
        refine brP_true (by rw [htn]; simpa using h5) ?_
        refine PFun.call (ptok_c hR.lt) ?_
        refine PFun.call (pfail_c 40 (p'.tok l).pl) ?_
        refine brP_true (by rw [hf.err]; simpa using hbad) ?_
        refine fin1 ?_
        rw [← hf.err, ← hf.at_]; rfl
    · refine brP_false (by rw [hR.err]; simpa using hc) ?_
      rw [bad_of hc (by decide)]
      dsimp only
      rw [if_neg hc]
      refine brP_true (by rw [hR.err]; simpa using hc) ?_
      refine fin1 ?_
      rw [← hR.err, ← hR.at_]; rfl
end Go.Proofs.Ytmflfcbebeikcaa.Q

namespace Go.Proofs.Ytmflfcbebeikcaa.Q
open Go.RowKit
variable [Amb]

/-- An expression with two parts at most, all through. -/
inductive Thin : Ex → Prop
  | mk {op : Int} {mon name : Str} {n : Int} {kids : List Ex} {pl : Int} (h : kids.length ≤ 2) (k : ∀ y ∈ kids, Thin y) : Thin ⟨op, mon, name, n, kids, pl⟩
theorem thin0 {op : Int} {mon name : Str} {n pl : Int} : Thin ⟨op, mon, name, n, [], pl⟩ := .mk (by simp) (by simp)
theorem thin1 {op : Int} {mon name : Str} {n pl : Int} {x : Ex} (h : Thin x) : Thin ⟨op, mon, name, n, [x], pl⟩ := .mk (by simp) (fun y hy => by simp at hy; rw [hy]; exact h)
theorem thin2 {op : Int} {mon name : Str} {n pl : Int} {x z : Ex} (h : Thin x) (g : Thin z) : Thin ⟨op, mon, name, n, [x, z], pl⟩ := .mk (by simp) (fun y hy => by simp at hy; rcases hy with rfl | rfl; exact h; exact g)
theorem exprF_thin (f : Nat) : (∀ lv r, Thin (binF f lv r).1) ∧ (∀ lv e r, Thin e → Thin (loopF f lv e r).1) ∧ (∀ r, Thin (termF f r).1) := by
  induction f with
  | zero => exact ⟨fun lv r => by rw [binF]; exact thin0, fun lv e r h => by rw [loopF]; exact h, fun r => by rw [termF]; exact thin0⟩
  | succ f ih =>
    obtain ⟨i1, i2, i3⟩ := ih
    refine ⟨fun lv r => ?_, fun lv e r h => ?_, fun r => ?_⟩
    · rw [binF]
      split
      · exact i3 r
      split
      · exact thin1 (i1 _ _)
      · exact i2 _ _ _ (i1 _ _)
    · rw [loopF]
      split
      · split
        · exact thin2 h (i1 _ _)
        · exact i2 _ _ _ (thin2 h (i1 _ _))
      · exact h
    · rw [termF]
      split
      · split
        · exact thin1 (i3 _)
        · exact thin0
      split
      · exact thin0
      split
      · exact thin1 (i3 _)
      split
      · exact i1 _ _
      split
      · exact thin0
      split
      · exact thin0
      · exact thin0
theorem exprS_thin (s : Str) : Thin (exprS s).1 := by
  unfold exprS
  split
  · split
    · exact (exprF_thin _).1 _ _
    · exact thin0
  · exact thin0
theorem PIdx.exr {l : List Ex} {k : Nat} {K : List D → Prop} (h : k < l.length) (c : K [.int .i64 l[k].op, .str l[k].mon, .str l[k].name, .int .i64 l[k].n, .sl (l[k].kids.map Ex.e), .int .i64 l[k].pl]) : PIdx (l.map Ex.e) (k : Int) K := PIdx.ex h c
theorem placed_c {x : Ex} (h : Thin x) : PFun Try.prog 15 [x.v, x.v] [] (.d (.bool true)) [] := by
  induction h with
  | @mk op mon name n kids pl hl hk ih =>
    refine fn_sem pok 67 0 Try.func15 (by kernel_rfl) rfl rfl rfl rfl ?_
    refine SWp.go pok (by kernel_rfl) ?_
    refine brP_false (by simp) ?_
    refine brP_false (by simp) ?_
    refine brP_false (by simp) ?_
    refine brP_false (by simp) ?_
    refine brP_false (by simp) ?_
    refine brP_false (by simp) ?_
    refine SWp.loop (fun k : Nat => k ≤ kids.length) (fun k => ([(2, .ptr 0 0), (3, .ptr 1 0), (5, iv k)], [.box [iv op, sv' mon, sv' name, iv n, .d (.sl (kids.map Ex.e)), iv pl], .box [iv op, sv' mon, sv' name, iv n, .d (.sl (kids.map Ex.e)), iv pl]])) (fun k => kids.length - k) 0 (Nat.zero_le _) (Le.same ⟨rfl, rfl, rfl, trivial⟩) (fun k hkl => ?_)
    refine SWp.go pok (by kernel_rfl) ?_
    refine brP_split (fun h => ?_) (fun h => ?_)
    · have hlt : k < kids.length := by simpa using h
      refine PIdx.exr hlt ?_
      refine PIdx.exr hlt ?_
      refine ⟨_, _, ih kids[k] (List.getElem_mem hlt), ?_⟩
      exact ⟨k + 1, hlt, by omega, Le.same ⟨rfl, rfl, sint (wrap_nat k (by omega)), trivial⟩⟩
    · exact fin1 rfl
theorem parseExprs_t (s : Str) (_ : s.length ≤ maxLen) : PFun Try.prog 4 [sv' s] [] (.d (.bool true)) [] := by
  refine fn_sem pok 42 0 Try.func4 (by kernel_rfl) rfl rfl rfl rfl ?_
  refine SWp.go pok (by kernel_rfl) ?_
  refine brP_split (fun h => ?_) (fun h => ?_)
  · exact PFun.call live04_c (fin1 rfl)
  have hs : s.length < 1073741824 := by simp at h; omega
  refine PFun.call (exprTop_c s hs) ?_
  refine PFun.call (refExpr_c s hs) ?_
  refine PFun.call (placed_c (exprS_thin s)) ?_
  refine PFun.call (num04_c _) ?_
  refine brP_true (by simp) ?_
  refine brP_true (by simp) ?_
  refine PFun.call live04_c ?_
  exact fin1 rfl
end Go.Proofs.Ytmflfcbebeikcaa.Q
