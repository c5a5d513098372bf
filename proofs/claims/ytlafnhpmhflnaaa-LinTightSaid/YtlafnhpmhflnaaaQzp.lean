/- Names of the language: what a byte may begin, what is a word, what is a name. No condition. -/
import Derived.Test.YtlafnhpmhflnaaaQzo
import Derived.Shelf.Strings.Search1
set_option linter.unusedVariables false
set_option linter.unusedSectionVars false
set_option linter.unnecessarySimpa false
set_option linter.unusedSimpArgs false
set_option maxRecDepth 100000
set_option maxHeartbeats 4000000
namespace Go.Proofs
open Go.RowKit Go.Lib
theorem Ytlafnhpmhflnaaa.slIndexByte_w (s : ByteArray) (c : Int) (w : World) :
    Calls Try.prog 101 #[.string s, .int .u8 c] w fun e w' => e = .returned (.int .i64 (Lib.indexByte s.data.toList c.toNat.toUInt8)) ∧ w' = w := by
  go_enter Try.func101, Try.ntmps101
  go_wp2
  rw [run_callFunc_extern Try.func102 (by kernel_rfl) (by kernel_rfl) (by kernel_rfl) (e := Extern.BytealgIndexByte.indexByte) (by kernel_rfl), Lib.run_indexByteString]
  simp only [Result.andThen]
  rw [Oper.upon_value]
  go_wp2
  go_ret
  exact ⟨rfl, rfl⟩
end Go.Proofs
namespace Go.Proofs.Ytlafnhpmhflnaaa.Q
open Go.RowKit
variable [Amb]
/-- A contract of the kit's, as one over pure values. -/
theorem PFun.ofCalls {P : Program} {f : FuncId} {args : List V} {r : V} {vs : List Value} {v : Value} (hf : ∃ fn, P.funcs[f]? = some fn ∧ (fn.name == "runtime.NumGoroutine") = false ∧ fn.body.isNone = false)
    (ha : ∀ G φ us, repVs G φ args us → us = vs) (hr : ∀ G φ, r.rep G φ v) (c : ∀ w, Calls P f vs.toArray w fun e w' => e = .returned v ∧ w' = w) : PFun P f args [] r [] :=
  ⟨hf, fun G w φ us hs hu => by
    rw [ha G φ us hu]
    refine (c w).mono ?_
    rintro e w' ⟨e1, rfl⟩
    exact ⟨v, r, [], G, φ, e1, ⟨rfl, rfl⟩, Nat.le_refl _, hs, Goes.refl _ _ _ _, hr G φ⟩⟩
theorem slIndexByte_c (s : Str) (c : Int) : PFun Try.prog 101 [sv' s, .d (.int .u8 c)] [] (iv (Lib.indexByte s c.toNat.toUInt8)) [] := by
  refine PFun.ofCalls (vs := [.string ⟨s.toArray⟩, .int .u8 c]) (v := .int .i64 (Lib.indexByte s c.toNat.toUInt8)) ⟨_, Try.func101, by kernel_rfl, by kernel_rfl⟩ ?_ (fun _ _ => rfl) (fun w => ?_)
  · rintro G φ us ⟨u, us', rfl, h1, u2, us2, rfl, h2, h3⟩
    have h1 : u = _ := h1
    have h2 : u2 = _ := h2
    have h3 : us2 = [] := h3
    rw [h1, h2, h3]
  · have := Ytlafnhpmhflnaaa.slIndexByte_w ⟨s.toArray⟩ c w
    simpa using this
theorem indexByte_c (s : Str) (c : Int) : PFun Try.prog 100 [sv' s, .d (.int .u8 c)] [] (iv (Lib.indexByte s c.toNat.toUInt8)) [] := by
  refine fn_sem pok 8 0 Try.func100 (by kernel_rfl) rfl rfl rfl rfl ?_
  refine SWp.go pok (by kernel_rfl) ?_
  exact PFun.call (slIndexByte_c s c) ⟨rfl, rfl⟩
/-- The signs. -/
def signs : Str := [123, 125, 40, 41, 59, 58, 61, 60, 62, 43, 45, 42, 33, 46, 38, 124]
/-- What a byte may begin: 0: nothing, 1: a blank, 2: a note, 3: a letter, 4: a digit, 5: a sign. -/
def classS (c : Int) : Int :=
  if c = 32 then 1 else if c = 9 then 1 else if c = 13 then 1 else if c = 10 then 1 else if c = 35 then 2 else
  if 97 ≤ c ∧ c ≤ 122 then 3 else if 65 ≤ c ∧ c ≤ 90 then 3 else if 48 ≤ c ∧ c ≤ 57 then 4 else if 0 ≤ Lib.indexByte signs c.toNat.toUInt8 then 5 else 0
theorem classOf_c (c : Int) : PFun Try.prog 95 [.d (.int .u8 c)] [] (iv (classS c)) [] := by
  refine fn_sem pok 41 0 Try.func95 (by kernel_rfl) rfl rfl rfl rfl ?_
  refine SWp.go pok (by kernel_rfl) ?_
  repeat' (refine brP_split (fun h => ?_) (fun h => ?_))
  all_goals first
    | refine PFun.call (indexByte_c signs c) ?_
      refine brP_split (fun h => ?_) (fun h => ?_)
    | skip
  all_goals
    refine fin1 (dint ?_)
    unfold classS
    simp only [beq_iff_eq, beq_eq_false_iff_ne, ne_eq, decide_eq_true_eq, decide_eq_false_iff_not] at *
    repeat' split
    all_goals first | rfl | omega
def inNameS (c : Int) : Bool := (classS c == 3) || (classS c == 4) || (c == 95)
theorem inName_c (c : Int) : PFun Try.prog 98 [.d (.int .u8 c)] [] (.d (.bool (inNameS c))) [] := by
  refine fn_sem pok 16 0 Try.func98 (by kernel_rfl) rfl rfl rfl rfl ?_
  refine SWp.go pok (by kernel_rfl) ?_
  refine PFun.call (classOf_c c) ?_
  repeat' (refine brP_split (fun h => ?_) (fun h => ?_))
  all_goals
    refine fin1 (dbool ?_)
    unfold inNameS
    simp only [*, Bool.true_or, Bool.or_true, Bool.false_or, Bool.or_false]
/-- Where a row of bytes of a kind ends. -/
def spanF (p : Int → Bool) : Nat → Str → Nat
  | k, [] => k
  | k, b :: r => if p b.toNat = true then spanF p (k + 1) r else k
theorem spanF_at (p : Int → Bool) {l : Str} {k : Nat} (h : k < l.length) : spanF p k (l.drop k) = if p l[k].toNat = true then spanF p (k + 1) (l.drop (k + 1)) else k := by rw [List.drop_eq_getElem_cons h]; rfl
theorem span_c (s : Str) (hs : s.length < 1073741824) : PFun Try.prog 97 [sv' s, iv 0, .fn (.func 98) [] []] [] (iv (spanF inNameS 0 s)) [] := by
  refine fn_sem pok 21 0 Try.func97 (by kernel_rfl) rfl rfl rfl rfl ?_
  refine SWp.go pok (by kernel_rfl) ?_
  refine SWp.loop (fun k : Nat => k ≤ s.length ∧ spanF inNameS k (s.drop k) = spanF inNameS 0 s) (fun k => ([(0, sv' s), (1, iv k), (2, .fn (.func 98) [] [])], [])) (fun k => s.length - k) 0 ⟨Nat.zero_le _, rfl⟩ (Le.same ⟨rfl, rfl, rfl, trivial⟩) (fun k hk => ?_)
  obtain ⟨hj, hk⟩ := hk
  refine SWp.go pok (by kernel_rfl) ?_
  refine brP_split (fun h => ?_) (fun h => ?_)
  · have hlt : k < s.length := by simpa using h
    have hat := spanF_at inNameS hlt
    refine PIdx.at (get_at hlt) ?_
    refine PFun.call (inName_c _) ?_
    refine brP_split (fun h3 => ?_) (fun h3 => ?_)
    · exact ⟨k + 1, ⟨hlt, by rw [← hk, hat, if_pos h3]⟩, by omega, Le.same ⟨rfl, sint (wrap_nat k (by omega)), rfl, trivial⟩⟩
    · exact fin1 (dint (by rw [← hk, hat, if_neg (by rw [h3]; simp)]))
  · have hk' : s.drop k = [] := List.drop_of_length_le (by simp at h; omega)
    have hl : k = s.length := by simp at h; omega
    exact fin1 (dint (by rw [← hk, hk']; rfl))
def words : List Str := [[109, 111, 110, 105, 116, 111, 114], [118, 97, 114], [109, 101, 116, 104, 111, 100], [116, 104, 114, 101, 97, 100], [98, 111, 111, 108], [105, 110, 116], [116, 114, 117, 101], [102, 97, 108, 115, 101], [115, 107, 105, 112], [105, 102],
  [101, 108, 115, 101], [119, 104, 105, 108, 101], [108, 111, 111, 112], [99, 104, 111, 111, 115, 101], [111, 114], [115, 121, 110, 99], [99, 97, 108, 108], [119, 97, 105, 116], [110, 111, 116, 105, 102, 121], [110, 111, 116, 105, 102, 121, 97, 108, 108]]
def isWord (s : Str) : Bool := words.any fun w => s == w
theorem word_c (s : Str) : PFun Try.prog 96 [sv' s] [] (.d (.bool (isWord s))) [] := by
  refine fn_sem pok 25 0 Try.func96 (by kernel_rfl) rfl rfl rfl rfl ?_
  refine SWp.go pok (by kernel_rfl) ?_
  repeat' (refine brP_split (fun h => ?_) (fun h => ?_))
  all_goals
    refine fin1 (dbool ?_)
    simp only [isWord, words, List.any, *, Bool.true_or, Bool.or_true, Bool.false_or, Bool.or_false]
def isName (s : Str) : Bool := !(s == []) && decide (s.length ≤ 32) && (classS ((s.headD 0).toNat : Int) == 3) && !isWord s && (spanF inNameS 0 s == s.length)
theorem name_c (s : Str) (hs : s.length < 1073741824) : PFun Try.prog 88 [sv' s] [] (.d (.bool (isName s))) [] := by
  refine fn_sem pok 25 0 Try.func88 (by kernel_rfl) rfl rfl rfl rfl ?_
  refine SWp.go pok (by kernel_rfl) ?_
  refine brP_split (fun h => ?_) (fun h => ?_)
  · exact fin1 (dbool (by simp only [isName, h]; rfl))
  · have hne : s ≠ [] := by simpa using h
    refine brP_split (fun h1 => ?_) (fun h1 => ?_)
    · have : ¬ s.length ≤ 32 := by simp at h1; omega
      exact fin1 (dbool (by simp [isName, this]))
    · have h32 : s.length ≤ 32 := by simp at h1; omega
      have hh : s[0]? = some (s.headD 0) := by cases s with | nil => exact absurd rfl hne | cons b r => rfl
      refine PIdx.at hh ?_
      refine PFun.call (classOf_c _) ?_
      refine brP_split (fun h2 => ?_) (fun h2 => ?_)
      · have h2 : (classS ((s.headD 0).toNat : Int) == 3) = false := by simpa using h2
        exact fin1 (dbool (by simp only [isName, h2]; simp))
      · have h2 : (classS ((s.headD 0).toNat : Int) == 3) = true := by simpa using h2
        refine PFun.call (word_c s) ?_
        refine brP_split (fun h3 => ?_) (fun h3 => ?_)
        · exact fin1 (dbool (by simp [isName, h3]))
        · refine PFun.call (span_c s hs) ?_
          refine brP_split (fun h4 => ?_) (fun h4 => ?_)
          · have e4 : (spanF inNameS 0 s == s.length) = true := by simp at h4 ⊢; omega
            exact fin1 (dbool (by simp only [isName, h2, h3, e4, decide_eq_true h32, beq_eq_false_iff_ne.2 hne]; rfl))
          · have e4 : (spanF inNameS 0 s == s.length) = false := by simp at h4 ⊢; omega
            exact fin1 (dbool (by simp only [isName, e4, Bool.and_false]))
end Go.Proofs.Ytlafnhpmhflnaaa.Q
