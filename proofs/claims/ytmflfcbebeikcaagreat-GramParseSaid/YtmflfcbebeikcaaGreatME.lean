/- What the lexer computes; what the parser's readers and expressions compute; derivations. No condition. -/
import Derived.Test.YtmflfcbebeikcaaGreatMD
import Derived.Test.YtmflfcbebeikcaaGreatMC
import Derived.Shelf.Strings.Search1
set_option linter.unusedVariables false
set_option linter.unusedSectionVars false
set_option linter.unnecessarySimpa false
set_option linter.unusedSimpArgs false
set_option maxRecDepth 100000
set_option maxHeartbeats 4000000
namespace Go.Proofs
open Go.RowKit Go.Lib
theorem YtmflfcbebeikcaaGreat.slIndexByte_w (s : ByteArray) (c : Int) (w : World) :
    Calls Tryz.prog 123 #[.string s, .int .u8 c] w fun e w' => e = .returned (.int .i64 (Lib.indexByte s.data.toList c.toNat.toUInt8)) ∧ w' = w := by
  go_enter Tryz.func123, Tryz.ntmps123
  go_wp2
  rw [run_callFunc_extern Tryz.func139 (by kernel_rfl) (by kernel_rfl) (by kernel_rfl) (e := Extern.BytealgIndexByte.indexByte) (by kernel_rfl), Lib.run_indexByteString]
  simp only [Result.andThen]
  rw [Oper.upon_value]
  go_wp2
  go_ret
  exact ⟨rfl, rfl⟩
end Go.Proofs
namespace Go.Proofs.YtmflfcbebeikcaaGreat.Q
open Go.RowKit
variable [Amb]
/-- A contract of the kit's, as one over pure values. -/
theorem PFun.ofCalls {P : Program} {f : FuncId} {args : List V} {r : V} {vs : List Value} {v : Value} (hf : ∃ fn, P.funcs[f]? = some fn ∧ (fn.name == "runtime.NumGoroutine") = false ∧ fn.body.isNone = false)
    (ha : ∀ G φ us, repVs G φ args us → us = vs) (hr : ∀ G φ, r.rep G φ v) (c : ∀ w, Calls P f vs.toArray w fun e w' => e = .returned v ∧ w' = w) : PFun P f args [] r [] :=
  ⟨hf, fun G w φ us hs hu => by
    rw [ha G φ us hu]
    refine (c w).mono ?_
    rintro e w' ⟨e1, rfl⟩
    exact ⟨v, r, [], G, φ, e1, ⟨rfl, rfl⟩, Nat.le_refl _, hs, Goes.refl _ _ _ _, hr G φ⟩⟩
theorem slIndexByte_c (s : Str) (c : Int) : PFun Tryz.prog 123 [sv' s, .d (.int .u8 c)] [] (iv (Lib.indexByte s c.toNat.toUInt8)) [] := by
  refine PFun.ofCalls (vs := [.string ⟨s.toArray⟩, .int .u8 c]) (v := .int .i64 (Lib.indexByte s c.toNat.toUInt8)) ⟨_, Tryz.func123, by kernel_rfl, by kernel_rfl⟩ ?_ (fun _ _ => rfl) (fun w => ?_)
  · rintro G φ us ⟨u, us', rfl, h1, u2, us2, rfl, h2, h3⟩
    have h1 : u = _ := h1
    have h2 : u2 = _ := h2
    have h3 : us2 = [] := h3
    rw [h1, h2, h3]
  · have := YtmflfcbebeikcaaGreat.slIndexByte_w ⟨s.toArray⟩ c w
    simpa using this
theorem indexByte_c (s : Str) (c : Int) : PFun Tryz.prog 97 [sv' s, .d (.int .u8 c)] [] (iv (Lib.indexByte s c.toNat.toUInt8)) [] := by
  refine fn_sem pok 8 0 Tryz.func97 (by kernel_rfl) rfl rfl rfl rfl ?_
  refine SWp.go pok (by kernel_rfl) ?_
  exact PFun.call (slIndexByte_c s c) ⟨rfl, rfl⟩
/-- The signs. -/
def signs : Str := [123, 125, 40, 41, 59, 58, 61, 60, 62, 43, 45, 42, 33, 46, 38, 124]
/-- What a byte may begin: 0: nothing, 1: a blank, 2: a note, 3: a letter, 4: a digit, 5: a sign. -/
def classS (c : Int) : Int :=
  if c = 32 then 1 else if c = 9 then 1 else if c = 13 then 1 else if c = 10 then 1 else if c = 35 then 2 else
  if 97 ≤ c ∧ c ≤ 122 then 3 else if 65 ≤ c ∧ c ≤ 90 then 3 else if 48 ≤ c ∧ c ≤ 57 then 4 else if 0 ≤ Lib.indexByte signs c.toNat.toUInt8 then 5 else 0
theorem classOf_c (c : Int) : PFun Tryz.prog 60 [.d (.int .u8 c)] [] (iv (classS c)) [] := by
  refine fn_sem pok 41 0 Tryz.func60 (by kernel_rfl) rfl rfl rfl rfl ?_
  refine SWp.go pok (by kernel_rfl) ?_
  repeat' (refine brP_split (fun h => ?_) (fun h => ?_))
  all_goals first
    | refine PFun.call (indexByte_c signs c) ?_
      refine brP_split (fun h => ?_) (fun h => ?_)
    | skip
  all_goals
    refine fin1 (dint ?_)
    unfold classS
    simp only [beq_iff_eq, beq_eq_false_iff_ne, ne_eq, decide_eq_true_eq, decide_eq_false_iff_not] at *
    repeat' split
    all_goals first | rfl | omega
def inNameS (c : Int) : Bool := (classS c == 3) || (classS c == 4) || (c == 95)
theorem inName_c (c : Int) : PFun Tryz.prog 98 [.d (.int .u8 c)] [] (.d (.bool (inNameS c))) [] := by
  refine fn_sem pok 16 0 Tryz.func98 (by kernel_rfl) rfl rfl rfl rfl ?_
  refine SWp.go pok (by kernel_rfl) ?_
  refine PFun.call (classOf_c c) ?_
  repeat' (refine brP_split (fun h => ?_) (fun h => ?_))
  all_goals
    refine fin1 (dbool ?_)
    unfold inNameS
    simp only [*, Bool.true_or, Bool.or_true, Bool.false_or, Bool.or_false]
/-- Where a row of bytes of a kind ends. -/
def spanF (p : Int → Bool) : Nat → Str → Nat
  | k, [] => k
  | k, b :: r => if p b.toNat = true then spanF p (k + 1) r else k
theorem spanF_at (p : Int → Bool) {l : Str} {k : Nat} (h : k < l.length) : spanF p k (l.drop k) = if p l[k].toNat = true then spanF p (k + 1) (l.drop (k + 1)) else k := by rw [List.drop_eq_getElem_cons h]; rfl
def words : List Str := [[109, 111, 110, 105, 116, 111, 114], [118, 97, 114], [109, 101, 116, 104, 111, 100], [116, 104, 114, 101, 97, 100], [98, 111, 111, 108], [105, 110, 116], [116, 114, 117, 101], [102, 97, 108, 115, 101], [115, 107, 105, 112], [105, 102],
  [101, 108, 115, 101], [119, 104, 105, 108, 101], [108, 111, 111, 112], [99, 104, 111, 111, 115, 101], [111, 114], [115, 121, 110, 99], [99, 97, 108, 108], [119, 97, 105, 116], [110, 111, 116, 105, 102, 121], [110, 111, 116, 105, 102, 121, 97, 108, 108]]
def isWord (s : Str) : Bool := words.any fun w => s == w
theorem word_c (s : Str) : PFun Tryz.prog 99 [sv' s] [] (.d (.bool (isWord s))) [] := by
  refine fn_sem pok 25 0 Tryz.func99 (by kernel_rfl) rfl rfl rfl rfl ?_
  refine SWp.go pok (by kernel_rfl) ?_
  repeat' (refine brP_split (fun h => ?_) (fun h => ?_))
  all_goals
    refine fin1 (dbool ?_)
    simp only [isWord, words, List.any, *, Bool.true_or, Bool.or_true, Bool.false_or, Bool.or_false]
theorem span_c (g : FuncId) (p : Int → Bool) (hg : ∀ c : Int, PFun Tryz.prog g [.d (.int .u8 c)] [] (.d (.bool (p c))) []) (s : Str) (a : Nat) (ha : a ≤ s.length) (hs : s.length < 1073741824) :
    PFun Tryz.prog 61 [sv' s, iv a, .fn (.func g) [] []] [] (iv (spanF p a (s.drop a))) [] := by
  refine fn_sem pok 21 0 Tryz.func61 (by kernel_rfl) rfl rfl rfl rfl ?_
  refine SWp.go pok (by kernel_rfl) ?_
  refine SWp.loop (fun k : Nat => a ≤ k ∧ k ≤ s.length ∧ spanF p k (s.drop k) = spanF p a (s.drop a)) (fun k => ([(0, sv' s), (1, iv k), (2, .fn (.func g) [] [])], [])) (fun k => s.length - k) a ⟨Nat.le_refl _, ha, rfl⟩ (Le.same ⟨rfl, rfl, rfl, trivial⟩) (fun k hk => ?_)
  obtain ⟨hak, hj, hk⟩ := hk
  refine SWp.go pok (by kernel_rfl) ?_
  refine brP_split (fun h => ?_) (fun h => ?_)
  · have hlt : k < s.length := by simpa using h
    have hat := spanF_at p hlt
    refine PIdx.at (get_at hlt) ?_
    refine PFun.call (hg _) ?_
    refine brP_split (fun h3 => ?_) (fun h3 => ?_)
    · exact ⟨k + 1, ⟨by omega, hlt, by rw [← hk, hat, if_pos h3]⟩, by omega, Le.same ⟨rfl, sint (wrap_nat k (by omega)), rfl, trivial⟩⟩
    · exact fin1 (dint (by rw [← hk, hat, if_neg (by rw [h3]; simp)]))
  · have hk' : s.drop k = [] := List.drop_of_length_le (by simp at h; omega)
    have hl : k = s.length := by simp at h; omega
    exact fin1 (dint (by rw [← hk, hk']; rfl))
end Go.Proofs.YtmflfcbebeikcaaGreat.Q

namespace Go.Proofs.YtmflfcbebeikcaaGreat.Q
open Go.RowKit
variable [Amb]
/-- A token. -/
structure Tk where
  kind : Int
  text : Str
  n : Int
  pl : Int
def Tk.c (t : Tk) : List D := [.int .i64 t.kind, .str t.text, .int .i64 t.n, .int .i64 t.pl]
def Tk.v (t : Tk) : V := .agg [iv t.kind, sv' t.text, iv t.n, iv t.pl]
theorem RL_tk (l : List Tk) : RL (l.map Tk.c) 4 := fun r hr => by obtain ⟨t, _, rfl⟩ := List.mem_map.1 hr; rfl
/-- A part of a text. -/
def cut (s : Str) (a b : Nat) : Str := (s.take b).drop a
/-- The scanner. -/
abbrev scH (s : Str) (a : Int) (l : List Tk) : List Ob := [.box [sv' s, iv a, .gsl (l.map Tk.c) 1], .tip 4 l.length]
theorem put_c (s : Str) (a to : Nat) (l : List Tk) (kind n : Int) (h1 : a ≤ to) (h2 : to ≤ s.length) (hl : l.length < 1073741824) :
    PFun Tryz.prog 35 [.ptr 0 0, iv kind, iv to, iv n] (scH s a l) (.tup []) (scH s to (l ++ [⟨kind, cut s a to, n, a⟩])) := by
  refine fn_sem pok 38 2 Tryz.func35 (by kernel_rfl) rfl rfl rfl rfl ?_
  refine SWp.go pok (by kernel_rfl) ?_
  refine ⟨⟨by omega, by omega, by omega⟩, ?_⟩
  refine ⟨⟨by simp, RL_tk _, fun r hr => by simp at hr; subst hr; rfl, by simp; omega⟩, ?_⟩
  exact ⟨rfl, by simp [scH, Tk.c, cut, cutTo, cutFrom]⟩
def notNl (c : Int) : Bool := c != 10
theorem notNl_c (c : Int) : PFun Tryz.prog 62 [.d (.int .u8 c)] [] (.d (.bool (notNl c))) [] := by
  refine fn_sem pok 5 0 Tryz.func62 (by kernel_rfl) rfl rfl rfl rfl ?_
  refine SWp.go pok (by kernel_rfl) ?_
  refine brP_split (fun h => ?_) (fun h => ?_)
  · exact fin1 (dbool h.symm)
  · exact fin1 (dbool h.symm)
def isDig (c : Int) : Bool := classS c == 4
theorem isDig_c (c : Int) : PFun Tryz.prog 100 [.d (.int .u8 c)] [] (.d (.bool (isDig c))) [] := by
  refine fn_sem pok 6 0 Tryz.func100 (by kernel_rfl) rfl rfl rfl rfl ?_
  refine SWp.go pok (by kernel_rfl) ?_
  refine PFun.call (classOf_c c) ?_
  refine brP_split (fun h => ?_) (fun h => ?_)
  · exact fin1 (dbool h.symm)
  · exact fin1 (dbool h.symm)
/-- What a step of the scanner gives: an error or 0, the place, the tokens. -/
abbrev LexR := Int × Nat × List Tk
def nameS (s : Str) (a : Nat) (l : List Tk) : LexR :=
  let to := spanF inNameS a (s.drop a)
  if to - a > 32 then (12, a, l) else if isWord (cut s a to) = true then (0, to, l ++ [⟨3, cut s a to, 0, a⟩]) else (0, to, l ++ [⟨1, cut s a to, 0, a⟩])
def twos : List Str := [[46, 46], [61, 61], [33, 61], [60, 61], [62, 61], [38, 38], [124, 124]]
def signS (s : Str) (a : Nat) (l : List Tk) : LexR :=
  if (twos.any fun t => t.isPrefixOf (s.drop a)) = true then (0, a + 2, l ++ [⟨4, cut s a (a + 2), 0, a⟩]) else
  if (s.drop a).headD 0 = 38 ∨ (s.drop a).headD 0 = 124 then (10, a, l) else (0, a + 1, l ++ [⟨4, cut s a (a + 1), 0, a⟩])
/-- A number out of digits; none: it is too great. -/
def digS (n : Int) : Str → Option Int
  | [] => some n
  | b :: r => if n > (9223372036854775807 - ((b.toNat : Int) - 48)).tdiv 10 then none else digS (10 * n + ((b.toNat : Int) - 48)) r
def numberS (s : Str) (a : Nat) (l : List Tk) : LexR :=
  let to := spanF isDig a (s.drop a)
  if (s.drop a).headD 0 = 48 ∧ to > a + 1 then (11, a, l) else match digS 0 (cut s a to) with
    | some n => (0, to, l ++ [⟨2, cut s a to, n, a⟩])
    | none => (11, a, l)
def nextS (s : Str) (a : Nat) (l : List Tk) : LexR :=
  let c := classS ((s.drop a).headD 0).toNat
  if c = 1 then (0, a + 1, l) else if c = 2 then (0, spanF notNl a (s.drop a), l) else if c = 3 then nameS s a l else if c = 4 then numberS s a l else if c = 5 then signS s a l else (10, a, l)
def scanF (s : Str) : Nat → Nat → List Tk → List Tk × Int × Int
  | 0, a, l => ([], 0, 0)
  | f + 1, a, l => if a < s.length then (if (nextS s a l).1 = 0 then scanF s f (nextS s a l).2.1 (nextS s a l).2.2 else ([], (nextS s a l).1, (nextS s a l).2.1)) else (l ++ [⟨5, [], 0, s.length⟩], 0, 0)
/-- A text's tokens, or an error, and where. -/
def scanS (s : Str) : List Tk × Int × Int := if s.length > 20000 then ([], 1, 20000) else scanF s (s.length + 1) 0 []
theorem hasPrefix_c (s t : Str) : PFun Tryz.prog 101 [sv' s, sv' t] [] (.d (.bool (t.isPrefixOf s))) [] := by
  have h1 : PFun Tryz.prog 124 [sv' s, sv' t] [] (.d (.bool (t.isPrefixOf s))) [] := by
    refine fn_sem pok 18 0 Tryz.func124 (by kernel_rfl) rfl rfl rfl rfl ?_
    refine SWp.go pok (by kernel_rfl) ?_
    refine brP_split (fun h => ?_) (fun h => ?_)
    · have hl : t.length ≤ s.length := by simp at h; omega
      have e : t.isPrefixOf s = (s.take t.length == t) := by
        rw [Bool.eq_iff_iff, List.isPrefixOf_iff_prefix, beq_iff_eq, List.prefix_iff_eq_take]
        exact ⟨fun h => h.symm, fun h => h.symm⟩
      refine ⟨⟨by omega, by omega⟩, ?_⟩
      refine brP_split (fun h => ?_) (fun h => ?_)
      · exact fin1 (dbool (by rw [e]; exact h.symm))
      · exact fin1 (dbool (by rw [e]; exact h.symm))
    · refine fin1 (dbool ?_)
      have hl : ¬ t.length ≤ s.length := by simp at h; omega
      cases hb : t.isPrefixOf s with
      | false => rfl
      | true => exact absurd (List.isPrefixOf_iff_prefix.1 hb).length_le hl
  refine fn_sem pok 8 0 Tryz.func101 (by kernel_rfl) rfl rfl rfl rfl ?_
  refine SWp.go pok (by kernel_rfl) ?_
  exact PFun.call h1 ⟨rfl, rfl⟩
theorem spanF_ge (p : Int → Bool) : ∀ (l : Str) (k : Nat), k ≤ spanF p k l ∧ spanF p k l ≤ k + l.length
  | [], k => by simp [spanF]
  | b :: r, k => by
    rw [spanF]
    split
    · have := spanF_ge p r (k + 1); simp; omega
    · simp
theorem name_w (s : Str) (a : Nat) (l : List Tk) (ha : a < s.length) (hs : s.length < 1073741824) (hl : l.length < 1073741824) :
    PFun Tryz.prog 63 [.ptr 0 0] (scH s a l) (iv (nameS s a l).1) (scH s (nameS s a l).2.1 (nameS s a l).2.2) := by
  have hsp := spanF_ge inNameS (s.drop a) a
  rw [List.length_drop] at hsp
  refine fn_sem pok 39 2 Tryz.func63 (by kernel_rfl) rfl rfl rfl rfl ?_
  refine SWp.go pok (by kernel_rfl) ?_
  refine ⟨_, _, span_c _ inNameS inName_c s a (by omega) hs, ?_⟩
  unfold nameS
  generalize hto : spanF inNameS a (s.drop a) = to at hsp
  dsimp only
  have hw : IntKind.i64.wrap ((to : Int) - a) = ((to - a : Nat) : Int) := by rw [IntKind.wrap_i64]; omega
  refine brP_split (fun h => ?_) (fun h => ?_)
  · rw [hw] at h
    have h : to - a > 32 := by simp at h; omega
    rw [if_pos h]
    exact ⟨rfl, rfl⟩
  rw [hw] at h
  have h : ¬ to - a > 32 := by simp at h; omega
  rw [if_neg h]
  refine ⟨⟨by omega, by omega, by omega⟩, ?_⟩
  refine ⟨_, _, word_c _, ?_⟩
  have e : cutFrom (cutTo s (some (to : Int))) (some (a : Int)) = cut s a to := by simp [cut, cutTo, cutFrom]
  rw [e]
  refine brP_split (fun h => ?_) (fun h => ?_)
  · rw [if_pos h]
    refine PFun.call (put_c s a to l 3 0 (by omega) (by omega) hl) ?_
    exact ⟨rfl, rfl⟩
  · rw [if_neg (by rw [h]; simp)]
    refine PFun.call (put_c s a to l 1 0 (by omega) (by omega) hl) ?_
    exact ⟨rfl, rfl⟩
theorem headD_get {s : Str} {a : Nat} (ha : a < s.length) : (s.drop a).headD 0 = s[a] := by rw [List.drop_eq_getElem_cons ha]; rfl
theorem sign_w (s : Str) (a : Nat) (l : List Tk) (ha : a < s.length) (hs : s.length < 1073741824) (hl : l.length < 1073741824) :
    PFun Tryz.prog 65 [.ptr 0 0] (scH s a l) (iv (signS s a l).1) (scH s (signS s a l).2.1 (signS s a l).2.2) := by
  have w2 : IntKind.i64.wrap ((a : Int) + 2) = ((a + 2 : Nat) : Int) := by rw [IntKind.wrap_i64]; omega
  have w1 : IntKind.i64.wrap ((a : Int) + 1) = ((a + 1 : Nat) : Int) := by rw [IntKind.wrap_i64]; omega
  have hd := headD_get ha
  refine fn_sem pok 45 2 Tryz.func65 (by kernel_rfl) rfl rfl rfl rfl ?_
  refine SWp.go pok (by kernel_rfl) ?_
  refine ⟨⟨by omega, by omega⟩, ?_⟩
  have e : cutFrom (cutTo s none) (some (a : Int)) = s.drop a := by simp [cutTo, cutFrom]
  refine SWp.loop (fun k : Nat => k ≤ 7 ∧ ((twos.take k).any fun t => t.isPrefixOf (s.drop a)) = false)
    (fun k => ([(0, .ptr 0 0), (3, sv' (s.drop a)), (15, .agg (twos.map sv')), (16, iv k)], scH s a l))
    (fun k => 7 - k) 0 ⟨by omega, rfl⟩ (Le.same ⟨rfl, by rw [← e]; rfl, rfl, rfl, trivial⟩) (fun k hk => ?_)
  obtain ⟨hk7, hk⟩ := hk
  have hc : k = 0 ∨ k = 1 ∨ k = 2 ∨ k = 3 ∨ k = 4 ∨ k = 5 ∨ k = 6 ∨ k = 7 := by omega
  rcases hc with rfl | rfl | rfl | rfl | rfl | rfl | rfl | rfl
  · refine SWp.go pok (by kernel_rfl) ?_
    refine ⟨⟨by decide, by decide⟩, ?_⟩
    refine PFun.call (hasPrefix_c _ _) ?_
    refine brP_split (fun h => ?_) (fun h => ?_)
    · have hlen : 2 ≤ (s.drop a).length := (List.isPrefixOf_iff_prefix.1 h).length_le
      rw [List.length_drop] at hlen
      have hany : (twos.any fun t => t.isPrefixOf (s.drop a)) = true := List.any_eq_true.2 ⟨_, (by decide : twos[0] ∈ twos), h⟩
      have hc := put_c s a (a + 2) l 4 0 (by omega) (by omega) hl
      rw [← w2] at hc
      refine PFun.call hc ?_
      unfold signS
      rw [if_pos hany]
      exact ⟨rfl, by rw [w2]⟩
    · exact ⟨1, ⟨by decide, by simp only [twos, List.take, List.any] at hk h ⊢; simp_all [twos]⟩, by decide, .inr ⟨[0, 1], ⟨rfl, rfl⟩, rfl, rfl, rfl, rfl, rfl, trivial⟩⟩
  · refine SWp.go pok (by kernel_rfl) ?_
    refine ⟨⟨by decide, by decide⟩, ?_⟩
    refine PFun.call (hasPrefix_c _ _) ?_
    refine brP_split (fun h => ?_) (fun h => ?_)
    · have hlen : 2 ≤ (s.drop a).length := (List.isPrefixOf_iff_prefix.1 h).length_le
      rw [List.length_drop] at hlen
      have hany : (twos.any fun t => t.isPrefixOf (s.drop a)) = true := List.any_eq_true.2 ⟨_, (by decide : twos[1] ∈ twos), h⟩
      have hc := put_c s a (a + 2) l 4 0 (by omega) (by omega) hl
      rw [← w2] at hc
      refine PFun.call hc ?_
      unfold signS
      rw [if_pos hany]
      exact ⟨rfl, by rw [w2]⟩
    · exact ⟨2, ⟨by decide, by simp only [twos, List.take, List.any] at hk h ⊢; simp_all [twos]⟩, by decide, .inr ⟨[0, 1], ⟨rfl, rfl⟩, rfl, rfl, rfl, rfl, rfl, trivial⟩⟩
  · refine SWp.go pok (by kernel_rfl) ?_
    refine ⟨⟨by decide, by decide⟩, ?_⟩
    refine PFun.call (hasPrefix_c _ _) ?_
    refine brP_split (fun h => ?_) (fun h => ?_)
    · have hlen : 2 ≤ (s.drop a).length := (List.isPrefixOf_iff_prefix.1 h).length_le
      rw [List.length_drop] at hlen
      have hany : (twos.any fun t => t.isPrefixOf (s.drop a)) = true := List.any_eq_true.2 ⟨_, (by decide : twos[2] ∈ twos), h⟩
      have hc := put_c s a (a + 2) l 4 0 (by omega) (by omega) hl
      rw [← w2] at hc
      refine PFun.call hc ?_
      unfold signS
      rw [if_pos hany]
      exact ⟨rfl, by rw [w2]⟩
    · exact ⟨3, ⟨by decide, by simp only [twos, List.take, List.any] at hk h ⊢; simp_all [twos]⟩, by decide, .inr ⟨[0, 1], ⟨rfl, rfl⟩, rfl, rfl, rfl, rfl, rfl, trivial⟩⟩
  · refine SWp.go pok (by kernel_rfl) ?_
    refine ⟨⟨by decide, by decide⟩, ?_⟩
    refine PFun.call (hasPrefix_c _ _) ?_
    refine brP_split (fun h => ?_) (fun h => ?_)
    · have hlen : 2 ≤ (s.drop a).length := (List.isPrefixOf_iff_prefix.1 h).length_le
      rw [List.length_drop] at hlen
      have hany : (twos.any fun t => t.isPrefixOf (s.drop a)) = true := List.any_eq_true.2 ⟨_, (by decide : twos[3] ∈ twos), h⟩
      have hc := put_c s a (a + 2) l 4 0 (by omega) (by omega) hl
      rw [← w2] at hc
      refine PFun.call hc ?_
      unfold signS
      rw [if_pos hany]
      exact ⟨rfl, by rw [w2]⟩
    · exact ⟨4, ⟨by decide, by simp only [twos, List.take, List.any] at hk h ⊢; simp_all [twos]⟩, by decide, .inr ⟨[0, 1], ⟨rfl, rfl⟩, rfl, rfl, rfl, rfl, rfl, trivial⟩⟩
  · refine SWp.go pok (by kernel_rfl) ?_
    refine ⟨⟨by decide, by decide⟩, ?_⟩
    refine PFun.call (hasPrefix_c _ _) ?_
    refine brP_split (fun h => ?_) (fun h => ?_)
    · have hlen : 2 ≤ (s.drop a).length := (List.isPrefixOf_iff_prefix.1 h).length_le
      rw [List.length_drop] at hlen
      have hany : (twos.any fun t => t.isPrefixOf (s.drop a)) = true := List.any_eq_true.2 ⟨_, (by decide : twos[4] ∈ twos), h⟩
      have hc := put_c s a (a + 2) l 4 0 (by omega) (by omega) hl
      rw [← w2] at hc
      refine PFun.call hc ?_
      unfold signS
      rw [if_pos hany]
      exact ⟨rfl, by rw [w2]⟩
    · exact ⟨5, ⟨by decide, by simp only [twos, List.take, List.any] at hk h ⊢; simp_all [twos]⟩, by decide, .inr ⟨[0, 1], ⟨rfl, rfl⟩, rfl, rfl, rfl, rfl, rfl, trivial⟩⟩
  · refine SWp.go pok (by kernel_rfl) ?_
    refine ⟨⟨by decide, by decide⟩, ?_⟩
    refine PFun.call (hasPrefix_c _ _) ?_
    refine brP_split (fun h => ?_) (fun h => ?_)
    · have hlen : 2 ≤ (s.drop a).length := (List.isPrefixOf_iff_prefix.1 h).length_le
      rw [List.length_drop] at hlen
      have hany : (twos.any fun t => t.isPrefixOf (s.drop a)) = true := List.any_eq_true.2 ⟨_, (by decide : twos[5] ∈ twos), h⟩
      have hc := put_c s a (a + 2) l 4 0 (by omega) (by omega) hl
      rw [← w2] at hc
      refine PFun.call hc ?_
      unfold signS
      rw [if_pos hany]
      exact ⟨rfl, by rw [w2]⟩
    · exact ⟨6, ⟨by decide, by simp only [twos, List.take, List.any] at hk h ⊢; simp_all [twos]⟩, by decide, .inr ⟨[0, 1], ⟨rfl, rfl⟩, rfl, rfl, rfl, rfl, rfl, trivial⟩⟩
  · refine SWp.go pok (by kernel_rfl) ?_
    refine ⟨⟨by decide, by decide⟩, ?_⟩
    refine PFun.call (hasPrefix_c _ _) ?_
    refine brP_split (fun h => ?_) (fun h => ?_)
    · have hlen : 2 ≤ (s.drop a).length := (List.isPrefixOf_iff_prefix.1 h).length_le
      rw [List.length_drop] at hlen
      have hany : (twos.any fun t => t.isPrefixOf (s.drop a)) = true := List.any_eq_true.2 ⟨_, (by decide : twos[6] ∈ twos), h⟩
      have hc := put_c s a (a + 2) l 4 0 (by omega) (by omega) hl
      rw [← w2] at hc
      refine PFun.call hc ?_
      unfold signS
      rw [if_pos hany]
      exact ⟨rfl, by rw [w2]⟩
    · exact ⟨7, ⟨by decide, by simp only [twos, List.take, List.any] at hk h ⊢; simp_all [twos]⟩, by decide, .inr ⟨[0, 1], ⟨rfl, rfl⟩, rfl, rfl, rfl, rfl, rfl, trivial⟩⟩
  · have hany : ¬ (twos.any fun t => t.isPrefixOf (s.drop a)) = true := by rw [show twos.take 7 = twos from rfl] at hk; rw [hk]; simp
    have hg : (s.drop a)[0]? = some s[a] := by rw [List.drop_eq_getElem_cons ha]; rfl
    have key : ∀ (b : Bool), (b = true ↔ s[a] = 38 ∨ s[a] = 124) → signS s a l = if b = true then (10, a, l) else (0, a + 1, l ++ [⟨4, cut s a (a + 1), 0, a⟩]) := fun b hb => by
      unfold signS
      rw [if_neg hany, hd]
      by_cases h : s[a] = 38 ∨ s[a] = 124
      · rw [if_pos h, if_pos (hb.2 h)]
      · rw [if_neg h, if_neg (fun e => h (hb.1 e))]
    have u8 : ∀ (c d : UInt8), ((c.toNat : Int) == (d.toNat : Int)) = (c == d) := fun c d => by
      rw [Bool.eq_iff_iff, beq_iff_eq, beq_iff_eq]
      exact ⟨fun h => UInt8.toNat_inj.1 (by omega), fun h => by rw [h]⟩
    have fin : ∀ (b : Bool), (b = true ↔ s[a] = 38 ∨ s[a] = 124) → b = false → signS s a l = (0, a + 1, l ++ [⟨4, cut s a (a + 1), 0, a⟩]) := fun b hb e => by rw [key b hb, e]; rfl
    have hc := put_c s a (a + 1) l 4 0 (by omega) (by omega) hl
    rw [← w1] at hc
    refine SWp.go pok (by kernel_rfl) ?_
    refine PIdx.at' rfl hg ?_
    refine brP_split (fun h => ?_) (fun h => ?_)
    · rw [show (38 : Int) = ((38 : UInt8).toNat : Int) from rfl, u8] at h
      have h : s[a] = 38 := by simpa using h
      rw [key true (by simp [h])]
      exact ⟨rfl, rfl⟩
    rw [show (38 : Int) = ((38 : UInt8).toNat : Int) from rfl, u8] at h
    have h1 : ¬ s[a] = 38 := by simpa using h
    refine PIdx.at' rfl hg ?_
    refine brP_split (fun h => ?_) (fun h => ?_)
    · rw [show (124 : Int) = ((124 : UInt8).toNat : Int) from rfl, u8] at h
      have h : s[a] = 124 := by simpa using h
      rw [key true (by simp [h])]
      exact ⟨rfl, rfl⟩
    rw [show (124 : Int) = ((124 : UInt8).toNat : Int) from rfl, u8] at h
    have h2 : ¬ s[a] = 124 := by simpa using h
    refine PFun.call hc ?_
    rw [key false (by simp [h1, h2]), w1]
    exact ⟨rfl, rfl⟩
theorem spanF_all (p : Int → Bool) : ∀ (l : Str) (k i : Nat), i < spanF p k l - k → ∃ b, l[i]? = some b ∧ p b.toNat = true
  | [], k, i, h => by simp [spanF] at h
  | b :: r, k, i, h => by
    rw [spanF] at h
    split at h
    · rename_i hb
      cases i with
      | zero => exact ⟨b, rfl, hb⟩
      | succ i =>
        obtain ⟨c, h1, h2⟩ := spanF_all p r (k + 1) i (by omega)
        exact ⟨c, by simpa using h1, h2⟩
    · omega
theorem classS_dig {c : Int} (h : classS c = 4) : 48 ≤ c ∧ c ≤ 57 := by
  unfold classS at h
  repeat' (split at h)
  all_goals first | (exact absurd h (by decide)) | assumption
theorem digS_at {l : Str} {k : Nat} (n : Int) (h : k < l.length) : digS n (l.drop k) = if n > (9223372036854775807 - ((l[k].toNat : Int) - 48)).tdiv 10 then none else digS (10 * n + ((l[k].toNat : Int) - 48)) (l.drop (k + 1)) := by
  rw [List.drop_eq_getElem_cons h]; rfl
theorem number_w (s : Str) (a : Nat) (l : List Tk) (ha : a < s.length) (hd : isDig s[a].toNat = true) (hs : s.length < 1073741824) (hl : l.length < 1073741824) :
    PFun Tryz.prog 64 [.ptr 0 0] (scH s a l) (iv (numberS s a l).1) (scH s (numberS s a l).2.1 (numberS s a l).2.2) := by
  have w1 : IntKind.i64.wrap ((a : Int) + 1) = ((a + 1 : Nat) : Int) := by rw [IntKind.wrap_i64]; omega
  have hsp := spanF_ge isDig (s.drop a) a
  have hsp1 : a < spanF isDig a (s.drop a) := by
    rw [List.drop_eq_getElem_cons ha, spanF, if_pos hd]
    have := spanF_ge isDig (s.drop (a + 1)) (a + 1); omega
  rw [List.length_drop] at hsp
  refine fn_sem pok 69 2 Tryz.func64 (by kernel_rfl) rfl rfl rfl rfl ?_
  refine SWp.go pok (by kernel_rfl) ?_
  refine ⟨_, _, span_c _ isDig isDig_c s a (by omega) hs, ?_⟩
  unfold numberS
  generalize hto : spanF isDig a (s.drop a) = to at hsp hsp1
  dsimp only
  have u8 : ∀ (c d : UInt8), ((c.toNat : Int) == (d.toNat : Int)) = (c == d) := fun c d => by
    rw [Bool.eq_iff_iff, beq_iff_eq, beq_iff_eq]
    exact ⟨fun h => UInt8.toNat_inj.1 (by omega), fun h => by rw [h]⟩
  have hdig : ∀ (j : Nat) (h : j < (cut s a to).length), 48 ≤ ((cut s a to)[j].toNat : Int) ∧ ((cut s a to)[j].toNat : Int) ≤ 57 := fun j h => by
    have hj : j < to - a := by simp [cut] at h; omega
    obtain ⟨b, h1, h2⟩ := spanF_all isDig (s.drop a) a j (by rw [hto]; exact hj)
    have e : (cut s a to)[j]? = some b := by
      unfold cut
      rw [List.getElem?_drop, List.getElem?_take, if_pos (by omega)]
      rwa [List.getElem?_drop] at h1
    rw [List.getElem?_eq_getElem h] at e
    injection e with e
    rw [e]
    exact classS_dig (by simpa [isDig] using h2)
  have hlen : (cut s a to).length = to - a := by simp [cut]; omega
  refine PIdx.at (get_at ha) ?_
  rw [headD_get ha]
  have e48 : ((s[a].toNat : Int) == 48) = (s[a] == 48) := u8 s[a] 48
  by_cases hno : s[a] = 48 ∧ to > a + 1
  · rw [if_pos hno]
    refine brP_true (by rw [e48]; simpa using hno.1) ?_
    refine brP_true (by rw [w1]; simp; omega) ?_
    exact ⟨rfl, rfl⟩
  rw [if_neg hno]
  have hgt : s[a] = 48 → ¬ to > a + 1 := fun h h' => hno ⟨h, h'⟩
  have ecut : cutFrom (cutTo s (some (to : Int))) (some (a : Int)) = cut s a to := by simp [cut, cutTo, cutFrom]
  refine brP_split (fun h => ?_) (fun h => ?_)
  all_goals try (refine brP_false (by rw [e48] at h; have := hgt (by simpa using h); rw [w1]; simp; omega) ?_)
  all_goals
    refine ⟨⟨by omega, by omega, by omega⟩, ?_⟩
    refine SWp.loop (fun q : Nat × Int => q.1 ≤ (cut s a to).length ∧ R64 q.2 ∧ 0 ≤ q.2 ∧ digS q.2 ((cut s a to).drop q.1) = digS 0 (cut s a to))
      (fun q => ([(0, .ptr 0 0), (3, iv to), (4, iv q.2), (46, .d (.sl (byteRows (cut s a to)))), (47, iv (byteRows (cut s a to)).length), (48, iv q.1)], scH s a l))
      (fun q => (cut s a to).length - q.1) (0, 0) ⟨Nat.zero_le _, by unfold R64; decide, by decide, rfl⟩ (Le.same ⟨rfl, rfl, rfl, by rw [← ecut]; rfl, by rw [← ecut]; rfl, rfl, trivial⟩) (fun q hq => ?_)
    obtain ⟨k, n⟩ := q
    obtain ⟨hk, hr, hn0, hdS⟩ := hq
    dsimp only at hk hr hn0 hdS
    refine SWp.go pok (by kernel_rfl) ?_
    refine brP_split (fun h => ?_) (fun h => ?_)
    · have hlt : k < (cut s a to).length := by simpa [byteRows] using h
      have hat := digS_at n hlt
      have hb := hdig k hlt
      refine PIdx.map (get_at hlt) ?_
      generalize hbe : (((cut s a to)[k].toNat : Nat) : Int) = b at hb hat
      have wa : IntKind.u8.wrap (b - 48) = b - 48 := by rw [IntKind.wrap_u8]; omega
      have wb : IntKind.i64.wrap (b - 48) = b - 48 := by rw [IntKind.wrap_i64]; omega
      have wc : IntKind.i64.wrap (9223372036854775807 - (b - 48)) = 9223372036854775807 - (b - 48) := by rw [IntKind.wrap_i64]; omega
      have wd : ∀ (q : Int), q = (9223372036854775807 - (b - 48)).tdiv 10 → 0 ≤ q ∧ 10 * q ≤ 9223372036854775807 - (b - 48) := fun q hq => by
        rw [Int.tdiv_eq_ediv_of_nonneg (by omega)] at hq; omega
      obtain ⟨q, hq⟩ : ∃ q, q = (9223372036854775807 - (b - 48)).tdiv 10 := ⟨_, rfl⟩
      have hqb := wd q hq
      have wq : IntKind.i64.wrap q = q := by rw [IntKind.wrap_i64]; omega
      refine ⟨by decide, ?_⟩
      refine brP_split (fun h => ?_) (fun h => ?_)
      · simp only [wa, wb, wc, ← hq, wq] at h
        rw [hat, if_pos (by rw [← hq]; simpa using h)] at hdS
        rw [← hdS]
        exact ⟨rfl, rfl⟩
      · simp only [wa, wb, wc, ← hq, wq] at h
        have h : ¬ n > q := by simp at h; omega
        rw [hat, if_neg (by rw [← hq]; exact h)] at hdS
        have we : IntKind.i64.wrap (10 * n) = 10 * n := by rw [IntKind.wrap_i64]; omega
        have wf : IntKind.i64.wrap (10 * n + (b - 48)) = 10 * n + (b - 48) := by rw [IntKind.wrap_i64]; omega
        exact ⟨(k + 1, 10 * n + (b - 48)), ⟨hlt, by unfold R64; dsimp only; omega, by dsimp only; omega, hdS⟩, by show (cut s a to).length - (k + 1) < (cut s a to).length - k; omega,
          .inr ⟨[0, 1], ⟨rfl, rfl⟩, rfl, rfl, rfl, sint (by rw [wa, wb, we, wf]), rfl, rfl, sint (wrap_nat k (by omega)), trivial⟩⟩
    · have hk' : k = (cut s a to).length := by simp [byteRows] at h; omega
      rw [hk', List.drop_length, digS] at hdS
      refine PFun.call (put_c s a to l 2 n (by omega) (by omega) hl) ?_
      rw [← hdS]
      exact ⟨rfl, rfl⟩
end Go.Proofs.YtmflfcbebeikcaaGreat.Q

namespace Go.Proofs.YtmflfcbebeikcaaGreat.Q
open Go.RowKit
variable [Amb]
theorem next_w (s : Str) (a : Nat) (l : List Tk) (ha : a < s.length) (hs : s.length < 1073741824) (hl : l.length < 1073741824) :
    PFun Tryz.prog 34 [.ptr 0 0] (scH s a l) (iv (nextS s a l).1) (scH s (nextS s a l).2.1 (nextS s a l).2.2) := by
  have w1 : IntKind.i64.wrap ((a : Int) + 1) = ((a + 1 : Nat) : Int) := by rw [IntKind.wrap_i64]; omega
  have hd := headD_get ha
  refine fn_sem pok 48 2 Tryz.func34 (by kernel_rfl) rfl rfl rfl rfl ?_
  refine SWp.go pok (by kernel_rfl) ?_
  refine PIdx.at (get_at ha) ?_
  refine ⟨_, _, classOf_c _, ?_⟩
  have e : ∀ c, classS s[a].toNat = c → nextS s a l = if c = 1 then (0, a + 1, l) else if c = 2 then (0, spanF notNl a (s.drop a), l) else if c = 3 then nameS s a l else if c = 4 then numberS s a l else if c = 5 then signS s a l else (10, a, l) := fun c hc => by
    unfold nextS; rw [hd, hc]
  generalize hc : classS ((s[a].toNat : Nat) : Int) = c at e
  have e := e c rfl
  refine brP_split (fun h => ?_) (fun h => ?_)
  · have h : c = 1 := by simpa using h
    rw [e, if_pos h]
    exact ⟨rfl, by rw [w1]⟩
  have h1 : ¬ c = 1 := by simpa using h
  refine brP_split (fun h => ?_) (fun h => ?_)
  · have h : c = 2 := by simpa using h
    rw [e, if_neg h1, if_pos h]
    refine ⟨_, _, span_c _ notNl notNl_c s a (by omega) hs, ?_⟩
    exact ⟨rfl, rfl⟩
  have h2 : ¬ c = 2 := by simpa using h
  refine brP_split (fun h => ?_) (fun h => ?_)
  · have h : c = 3 := by simpa using h
    rw [e, if_neg h1, if_neg h2, if_pos h]
    refine PFun.call (name_w s a l ha hs hl) ?_
    exact ⟨rfl, rfl⟩
  have h3 : ¬ c = 3 := by simpa using h
  refine brP_split (fun h => ?_) (fun h => ?_)
  · have h : c = 4 := by simpa using h
    rw [e, if_neg h1, if_neg h2, if_neg h3, if_pos h]
    refine PFun.call (number_w s a l ha (by unfold isDig; rw [hc, h]; rfl) hs hl) ?_
    exact ⟨rfl, rfl⟩
  have h4 : ¬ c = 4 := by simpa using h
  refine brP_split (fun h => ?_) (fun h => ?_)
  · have h : c = 5 := by simpa using h
    rw [e, if_neg h1, if_neg h2, if_neg h3, if_neg h4, if_pos h]
    refine PFun.call (sign_w s a l ha hs hl) ?_
    exact ⟨rfl, rfl⟩
  have h5 : ¬ c = 5 := by simpa using h
  rw [e, if_neg h1, if_neg h2, if_neg h3, if_neg h4, if_neg h5]
  exact ⟨rfl, rfl⟩
theorem prefix_two {s : Str} {a : Nat} (h : (twos.any fun t => t.isPrefixOf (s.drop a)) = true) : a + 2 ≤ s.length := by
  obtain ⟨t, ht, hp⟩ := List.any_eq_true.1 h
  have h1 := (List.isPrefixOf_iff_prefix.1 hp).length_le
  have h2 : t.length = 2 := by
    simp only [twos, List.mem_cons, List.not_mem_nil, or_false] at ht
    rcases ht with rfl | rfl | rfl | rfl | rfl | rfl | rfl <;> rfl
  rw [List.length_drop] at h1; omega
theorem span_gt {p : Int → Bool} {s : Str} {a : Nat} (ha : a < s.length) (hp : p s[a].toNat = true) : a < spanF p a (s.drop a) ∧ spanF p a (s.drop a) ≤ s.length := by
  rw [List.drop_eq_getElem_cons ha, spanF, if_pos hp]
  have h1 := spanF_ge p (s.drop (a + 1)) (a + 1)
  rw [List.length_drop] at h1; omega
/-- A step that is no error goes on, by one token at most. -/
theorem next_ok {s : Str} {a : Nat} {l : List Tk} (ha : a < s.length) (h : (nextS s a l).1 = 0) : a < (nextS s a l).2.1 ∧ (nextS s a l).2.1 ≤ s.length ∧ (nextS s a l).2.2.length ≤ l.length + 1 := by
  have hd := headD_get ha
  unfold nextS at h ⊢
  rw [hd] at h ⊢
  generalize hc : classS ((s[a].toNat : Nat) : Int) = c at h ⊢
  dsimp only at h ⊢
  by_cases h1 : c = 1
  · rw [if_pos h1]; dsimp only; omega
  rw [if_neg h1] at h ⊢
  by_cases h2 : c = 2
  · rw [if_pos h2] at h ⊢
    have : (s[a].toNat : Int) = 35 := by
      rw [h2] at hc
      unfold classS at hc
      repeat' (split at hc)
      all_goals first | assumption | exact absurd hc (by decide)
    have := span_gt (p := notNl) ha (by rw [this]; rfl)
    dsimp only; omega
  rw [if_neg h2] at h ⊢
  by_cases h3 : c = 3
  · rw [if_pos h3] at h ⊢
    have := span_gt (p := inNameS) ha (by unfold inNameS; rw [hc, h3]; rfl)
    unfold nameS at h ⊢
    dsimp only at h ⊢
    split at h
    · cases h
    · rename_i h6
      rw [if_neg h6]
      split <;> (dsimp only; rw [List.length_append]; exact ⟨this.1, this.2, Nat.le_refl _⟩)
  rw [if_neg h3] at h ⊢
  by_cases h4 : c = 4
  · rw [if_pos h4] at h ⊢
    have := span_gt (p := isDig) ha (by unfold isDig; rw [hc, h4]; rfl)
    unfold numberS at h ⊢
    dsimp only at h ⊢
    split at h
    · cases h
    · rename_i h6
      rw [if_neg h6]
      cases hq : digS 0 (cut s a (spanF isDig a (s.drop a))) with
      | none => rw [hq] at h; cases h
      | some n => dsimp only; rw [List.length_append]; exact ⟨this.1, this.2, Nat.le_refl _⟩
  rw [if_neg h4] at h ⊢
  by_cases h5 : c = 5
  · rw [if_pos h5] at h ⊢
    unfold signS at h ⊢
    split at h
    · rename_i h6
      rw [if_pos h6]
      have := prefix_two h6
      dsimp only; rw [List.length_append]; exact ⟨by omega, by omega, Nat.le_refl _⟩
    · rename_i h6
      rw [if_neg h6]
      split at h
      · cases h
      · rename_i h7
        rw [if_neg h7]
        dsimp only; rw [List.length_append]; exact ⟨by omega, by omega, Nat.le_refl _⟩
  rw [if_neg h5] at h; cases h
/-- Tokens, an error, and where. -/
def tks (q : List Tk × Int × Int) : V := .tup [.d (.sl (q.1.map Tk.c)), iv q.2.1, iv q.2.2]
theorem scan_c (s : Str) (hs : s.length < 1073741824) : PFun Tryz.prog 16 [sv' s] [] (tks (scanS s)) [] := by
  refine fn_sem pok 28 0 Tryz.func16 (by kernel_rfl) rfl rfl rfl rfl ?_
  refine SWp.go pok (by kernel_rfl) ?_
  unfold scanS
  refine brP_split (fun h => ?_) (fun h => ?_)
  · rw [if_pos (by simp at h; omega)]
    exact fin1 rfl
  have hlen : ¬ s.length > 20000 := by simp at h; omega
  rw [if_neg hlen]
  refine SWp.tipBox 0 2 4 rfl rfl ?_
  refine SWp.loop (fun q : Nat × List Tk × List (List D) => q.1 ≤ s.length ∧ q.2.2 = q.2.1.map Tk.c ∧ q.2.1.length ≤ q.1 ∧ ∃ f, s.length - q.1 < f ∧ scanF s f q.1 q.2.1 = scanF s (s.length + 1) 0 [])
    (fun q => ([(0, sv' s), (5, .ptr 0 0)], [.box [sv' s, iv q.1, .gsl q.2.2 1], .tip 4 q.2.1.length])) (fun q => s.length - q.1) (0, [], []) ⟨Nat.zero_le _, rfl, Nat.zero_le _, s.length + 1, by omega, rfl⟩ (Le.same ⟨rfl, rfl, trivial⟩) (fun q hq => ?_)
  obtain ⟨a, l, rows⟩ := q
  obtain ⟨ha, hr, hl, f, hf, he⟩ := hq
  dsimp only at ha hr hl hf he
  subst hr
  cases f with
  | zero => omega
  | succ f =>
    rw [scanF] at he
    refine SWp.go pok (by kernel_rfl) ?_
    refine brP_split (fun h => ?_) (fun h => ?_)
    · have hlt : a < s.length := by simpa using h
      rw [if_pos hlt] at he
      have hn := next_w s a l hlt hs (by omega)
      refine PFun.call hn ?_
      refine brP_split (fun h => ?_) (fun h => ?_)
      · have h : ¬ (nextS s a l).1 = 0 := by simpa using h
        rw [if_neg h] at he
        rw [← he]
        exact fin1 rfl
      · have h : (nextS s a l).1 = 0 := by simpa using h
        rw [if_pos h] at he
        obtain ⟨g1, g2, g3⟩ := next_ok hlt h
        exact ⟨((nextS s a l).2.1, (nextS s a l).2.2, (nextS s a l).2.2.map Tk.c), ⟨g2, rfl, by dsimp only; omega, f, by dsimp only; omega, he⟩, by show s.length - _ < s.length - a; omega, .inr ⟨[0, 1], ⟨rfl, rfl⟩, rfl, rfl, rfl, trivial⟩⟩
    · have hge : a = s.length := by simp at h; omega
      subst hge
      rw [if_neg (Nat.lt_irrefl _)] at he
      have hn := put_c s s.length s.length l 5 0 (Nat.le_refl _) (Nat.le_refl _) (by omega)
      refine PFun.call hn ?_
      rw [← he]
      exact fin1 (by simp [tks, cut])
end Go.Proofs.YtmflfcbebeikcaaGreat.Q

namespace Go.Proofs.YtmflfcbebeikcaaGreat.Q
open Go.RowKit
variable [Amb]
/-- The reader: the first error, and where; the tokens; how many are open. -/
structure Rd where
  code : Int
  at_ : Int
  toks : List Tk
  opn : Int
def tk0 : Tk := ⟨0, [], 0, 0⟩
abbrev Rd.b (r : Rd) : Ob := .box [iv r.code, iv r.at_, .d (.sl (r.toks.map Tk.c)), iv r.opn]
def Rd.hd (r : Rd) : Tk := r.toks.headD tk0
def Rd.next (r : Rd) : Tk := if r.code = 0 then r.hd else tk0
def Rd.take (r : Rd) : Rd := if r.code = 0 ∧ 1 < r.toks.length then ⟨r.code, r.at_, r.toks.tail, r.opn⟩ else r
def Rd.fail (r : Rd) (e : Int) : Rd := if r.code = 0 then ⟨e, r.hd.pl, r.toks, r.opn⟩ else r
def Rd.is (r : Rd) (s : Str) : Bool := (r.next.kind == 3 || r.next.kind == 4) && r.next.text == s
def Rd.may (r : Rd) (s : Str) : Bool × Rd := if r.is s = true then (true, r.take) else (false, r)
def Rd.must (r : Rd) (s : Str) : Rd := if r.is s = true then r.take else r.fail 40
def Rd.want (r : Rd) (k : Int) : Rd := if r.next.kind = k then r else r.fail 40
def Rd.of (r : Rd) (k : Int) : Tk × Rd := ((r.want k).next, (r.want k).take)
def Rd.name (r : Rd) : (Str × Int) × Rd := (((r.of 1).1.text, (r.of 1).1.pl), (r.of 1).2)
def Rd.pair (r : Rd) : (Str × Str) × Rd := ((r.name.1.1, (r.name.2.must [46]).name.1.1), (r.name.2.must [46]).name.2)
def Rd.room (r : Rd) (n most : Int) : Rd := if n ≥ most then r.fail 6 else r
/-- The tokens end with the end, and are not too many; not too many are open. -/
structure Rd.ok (r : Rd) : Prop where
  last : ∃ l t, r.toks = l ++ [t] ∧ t.kind = 5
  len : r.toks.length < 1073741824
  o0 : 0 ≤ r.opn
  o1 : r.opn ≤ 65
  o2 : r.code = 0 → r.opn ≤ 64
theorem Rd.ok.ne {r : Rd} (h : r.ok) : 0 < r.toks.length := by obtain ⟨l, t, e, _⟩ := h.last; rw [e]; simp
theorem Rd.ok.hd0 {r : Rd} (h : r.ok) : r.toks[0]? = some r.hd := by
  have := h.ne
  unfold Rd.hd
  cases hr : r.toks with
  | nil => rw [hr] at this; simp at this
  | cons t l => rfl
theorem Tk.at {l : List Tk} {z : Int} {k : Nat} {t : Tk} {K : List D → Prop} (hz : z = k) (h : l[k]? = some t) (c : K [.int .i64 t.kind, .str t.text, .int .i64 t.n, .int .i64 t.pl]) : PIdx (l.map Tk.c) z K := PIdx.map' hz h c
theorem next_c (r : Rd) (h : r.ok) : PFun Tryz.prog 36 [.ptr 0 0] [r.b] r.next.v [r.b] := by
  refine fn_sem pok 16 1 Tryz.func36 (by kernel_rfl) rfl rfl rfl rfl ?_
  refine SWp.go pok (by kernel_rfl) ?_
  unfold Rd.next
  refine brP_split (fun h1 => ?_) (fun h1 => ?_)
  · have h1 : ¬ r.code = 0 := by simpa using h1
    rw [if_neg h1]
    exact ⟨rfl, rfl⟩
  · have h1 : r.code = 0 := by simpa using h1
    rw [if_pos h1]
    refine Tk.at rfl h.hd0 ?_
    exact ⟨rfl, rfl⟩
theorem take_c (r : Rd) (h : r.ok) : PFun Tryz.prog 39 [.ptr 0 0] [r.b] r.next.v [r.take.b] := by
  refine fn_sem pok 29 1 Tryz.func39 (by kernel_rfl) rfl rfl rfl rfl ?_
  refine SWp.go pok (by kernel_rfl) ?_
  refine PFun.call (next_c r h) ?_
  unfold Rd.take
  refine brP_split (fun h1 => ?_) (fun h1 => ?_)
  · have h1 : r.code = 0 := by simpa using h1
    refine brP_split (fun h2 => ?_) (fun h2 => ?_)
    · have h2 : 1 < r.toks.length := by simp at h2; omega
      rw [if_pos ⟨h1, h2⟩]
      refine ⟨⟨by decide, by simp; omega⟩, RL_tk _, ?_⟩
      exact ⟨rfl, by simp [Rd.b, cutTo, cutFrom, List.drop_one]⟩
    · rw [if_neg (fun e => by have := e.2; simp at h2; omega)]
      exact ⟨rfl, rfl⟩
  · rw [if_neg (fun e => by simp at h1; exact h1 e.1)]
    exact ⟨rfl, rfl⟩
theorem fail_c (r : Rd) (e : Int) (h : r.ok) : PFun Tryz.prog 42 [.ptr 0 0, iv e] [r.b] (.tup []) [(r.fail e).b] := by
  refine fn_sem pok 26 1 Tryz.func42 (by kernel_rfl) rfl rfl rfl rfl ?_
  refine SWp.go pok (by kernel_rfl) ?_
  unfold Rd.fail
  refine brP_split (fun h1 => ?_) (fun h1 => ?_)
  · have h1 : r.code = 0 := by simpa using h1
    rw [if_pos h1]
    refine Tk.at rfl h.hd0 ?_
    exact ⟨rfl, rfl⟩
  · have h1 : ¬ r.code = 0 := by simpa using h1
    rw [if_neg h1]
    exact ⟨rfl, rfl⟩
theorem is_c (r : Rd) (s : Str) (h : r.ok) : PFun Tryz.prog 37 [.ptr 0 0, sv' s] [r.b] (.d (.bool (r.is s))) [r.b] := by
  refine fn_sem pok 22 1 Tryz.func37 (by kernel_rfl) rfl rfl rfl rfl ?_
  refine SWp.go pok (by kernel_rfl) ?_
  refine PFun.call (next_c r h) ?_
  unfold Rd.is
  repeat' (refine brP_split (fun h => ?_) (fun h => ?_))
  all_goals
    refine ⟨dbool ?_, rfl⟩
    simp only [*, Bool.true_or, Bool.or_true, Bool.false_or, Bool.or_false, Bool.true_and, Bool.false_and]
end Go.Proofs.YtmflfcbebeikcaaGreat.Q

namespace Go.Proofs.YtmflfcbebeikcaaGreat.Q
open Go.RowKit
variable [Amb]
/-- What is left to be read. -/
def Rd.m (r : Rd) : Nat := if r.code = 0 then r.toks.length else 0
/-- The reader behind some step: it is right, nothing was given back, as many are open. -/
structure Rd.to (r r' : Rd) : Prop where
  ok : r'.ok
  m : r'.m ≤ r.m
  opn : r'.opn = r.opn
theorem Rd.ok.to {r : Rd} (h : r.ok) : r.to r := ⟨h, Nat.le_refl _, rfl⟩
theorem Rd.to.trans {a b c : Rd} (h : a.to b) (k : b.to c) : a.to c := ⟨k.ok, Nat.le_trans k.m h.m, k.opn.trans h.opn⟩
theorem Rd.ok.take {r : Rd} (h : r.ok) : r.to r.take := by
  unfold Rd.take
  by_cases hc : r.code = 0 ∧ 1 < r.toks.length
  · rw [if_pos hc]
    obtain ⟨l, t, e, k⟩ := h.last
    refine ⟨⟨⟨l.tail, t, ?_, k⟩, by simp; have := h.len; omega, h.o0, h.o1, h.o2⟩, by unfold Rd.m; rw [if_pos hc.1, if_pos hc.1]; simp, rfl⟩
    cases l with
    | nil => rw [e] at hc; simp at hc
    | cons a l => show r.toks.tail = _; rw [e]; rfl
  · rw [if_neg hc]; exact h.to
theorem Rd.ok.fail {r : Rd} (h : r.ok) {e : Int} (he : e ≠ 0) : r.to (r.fail e) := by
  unfold Rd.fail
  by_cases hc : r.code = 0
  · rw [if_pos hc]
    exact ⟨⟨h.last, h.len, h.o0, h.o1, fun e' => absurd e' he⟩, by unfold Rd.m; rw [if_neg he]; omega, rfl⟩
  · rw [if_neg hc]; exact h.to
theorem Rd.ok.may {r : Rd} (h : r.ok) {s : Str} : r.to (r.may s).2 := by
  unfold Rd.may; split
  · exact h.take
  · exact h.to
theorem Rd.ok.must {r : Rd} (h : r.ok) {s : Str} : r.to (r.must s) := by
  unfold Rd.must; split
  · exact h.take
  · exact h.fail (by decide)
theorem Rd.ok.want {r : Rd} (h : r.ok) {k : Int} : r.to (r.want k) := by
  unfold Rd.want; split
  · exact h.to
  · exact h.fail (by decide)
theorem Rd.ok.of {r : Rd} (h : r.ok) {k : Int} : r.to (r.of k).2 := h.want.trans h.want.ok.take
theorem Rd.ok.name {r : Rd} (h : r.ok) : r.to r.name.2 := h.of
theorem Rd.ok.pair {r : Rd} (h : r.ok) : r.to r.pair.2 := h.name.trans (h.name.ok.must.trans h.name.ok.must.ok.name)
theorem Rd.ok.room {r : Rd} (h : r.ok) {n most : Int} : r.to (r.room n most) := by
  unfold Rd.room; split
  · exact h.fail (by decide)
  · exact h.to
/-- What is a word or a sign is not the end: something is behind it. -/
theorem Rd.is_code {r : Rd} {s : Str} (hi : r.is s = true) : r.code = 0 ∧ (r.hd.kind = 3 ∨ r.hd.kind = 4) ∧ r.hd.text = s := by
  unfold Rd.is at hi
  simp only [Bool.and_eq_true, Bool.or_eq_true, beq_iff_eq] at hi
  have hc : r.code = 0 := by
    by_cases hc : r.code = 0
    · exact hc
    · unfold Rd.next at hi; rw [if_neg hc] at hi; exact absurd hi.1 (by decide)
  unfold Rd.next at hi
  rw [if_pos hc] at hi
  exact ⟨hc, hi.1, hi.2⟩
theorem Rd.ok.more {r : Rd} (h : r.ok) (hk : r.hd.kind ≠ 5) : 1 < r.toks.length := by
  obtain ⟨l, t, e, k⟩ := h.last
  cases l with
  | nil =>
    unfold Rd.hd at hk
    rw [e] at hk
    exact absurd k hk
  | cons a l => rw [e]; simp
theorem Rd.ok.takes {r : Rd} (h : r.ok) (hc : r.code = 0) (hk : r.hd.kind ≠ 5) : r.take.m < r.m ∧ r.take.code = 0 := by
  have := h.more hk
  have e : r.take = ⟨r.code, r.at_, r.toks.tail, r.opn⟩ := by unfold Rd.take; rw [if_pos ⟨hc, this⟩]
  rw [e]
  refine ⟨?_, hc⟩
  unfold Rd.m
  rw [if_pos hc, if_pos hc]
  simp; omega
theorem Rd.ok.isTake {r : Rd} (h : r.ok) {s : Str} (hi : r.is s = true) : r.take.m < r.m ∧ r.take.code = 0 := by
  obtain ⟨h1, h2, _⟩ := Rd.is_code hi
  exact h.takes h1 (by rcases h2 with e | e <;> rw [e] <;> decide)
theorem may_c (r : Rd) (s : Str) (h : r.ok) : PFun Tryz.prog 103 [.ptr 0 0, sv' s] [r.b] (.d (.bool (r.may s).1)) [(r.may s).2.b] := by
  refine fn_sem pok 11 1 Tryz.func103 (by kernel_rfl) rfl rfl rfl rfl ?_
  refine SWp.go pok (by kernel_rfl) ?_
  refine PFun.call (is_c r s h) ?_
  unfold Rd.may
  refine brP_split (fun h1 => ?_) (fun h1 => ?_)
  · have h1 : r.is s = false := by simpa using h1
    rw [if_neg (by rw [h1]; simp)]
    exact ⟨rfl, rfl⟩
  · have h1 : r.is s = true := by simpa using h1
    rw [if_pos h1]
    refine PFun.call (take_c r h) ?_
    exact ⟨rfl, rfl⟩
def Rd.musts (r : Rd) (l : List Str) : Rd := l.foldl Rd.must r
theorem Rd.ok.musts {l : List Str} : ∀ {r : Rd}, r.ok → r.to (r.musts l) := by
  induction l with
  | nil => intro r h; exact h.to
  | cons s l ih => intro r h; exact h.must.trans (ih h.must.ok)
theorem musts_snoc {r : Rd} {l : List Str} {k : Nat} (h : k < l.length) : r.musts (l.take (k + 1)) = (r.musts (l.take k)).must l[k] := by
  unfold Rd.musts
  rw [List.take_add_one, List.getElem?_eq_getElem h, List.foldl_append]; rfl
theorem musts_c (r : Rd) (l : List Str) (h : r.ok) (hl : l.length < 1073741824) : PFun Tryz.prog 71 [.ptr 0 0, .d (.sl (l.map scell))] [r.b] (.tup []) [(r.musts l).b] := by
  refine fn_sem pok 19 1 Tryz.func71 (by kernel_rfl) rfl rfl rfl rfl ?_
  refine SWp.go pok (by kernel_rfl) ?_
  refine SWp.loop (fun q : Nat × Rd => q.1 ≤ l.length ∧ q.2 = r.musts (l.take q.1)) (fun q => ([(0, .ptr 0 0), (6, .d (.sl (l.map scell))), (7, iv (l.map scell).length), (8, iv q.1)], [q.2.b])) (fun q => l.length - q.1) (0, r) ⟨Nat.zero_le _, rfl⟩ (Le.same ⟨rfl, rfl, rfl, rfl, trivial⟩) (fun q hq => ?_)
  obtain ⟨k, r1⟩ := q
  obtain ⟨hk, hr⟩ := hq
  dsimp only at hk hr
  have hok : r1.ok := by rw [hr]; exact h.musts.ok
  refine SWp.go pok (by kernel_rfl) ?_
  refine brP_split (fun h1 => ?_) (fun h1 => ?_)
  · have hlt : k < l.length := by simpa using h1
    have hsn := musts_snoc (r := r) hlt
    rw [← hr] at hsn
    refine PIdx.map (get_at hlt) ?_
    refine PFun.call (may_c r1 l[k] hok) ?_
    unfold Rd.may
    unfold Rd.must at hsn
    refine brP_split (fun h2 => ?_) (fun h2 => ?_)
    · have h2 : ¬ r1.is l[k] = true := by intro e; rw [if_pos e] at h2; cases h2
      rw [if_neg h2] at hsn ⊢
      refine PFun.call (fail_c r1 40 hok) ?_
      exact ⟨(k + 1, r1.fail 40), ⟨hlt, hsn.symm⟩, by show l.length - (k + 1) < l.length - k; omega, .inr ⟨[0], ⟨rfl, rfl⟩, rfl, rfl, rfl, rfl, sint (wrap_nat k (by omega)), trivial⟩⟩
    · have h2 : r1.is l[k] = true := by
        by_cases e : r1.is l[k] = true
        · exact e
        · rw [if_neg e] at h2; cases h2
      rw [if_pos h2] at hsn ⊢
      exact ⟨(k + 1, r1.take), ⟨hlt, hsn.symm⟩, by show l.length - (k + 1) < l.length - k; omega, .inr ⟨[0], ⟨rfl, rfl⟩, rfl, rfl, rfl, rfl, sint (wrap_nat k (by omega)), trivial⟩⟩
  · have hk' : l.take k = l := List.take_of_length_le (by simp at h1; omega)
    rw [hk'] at hr
    rw [hr]
    exact ⟨rfl, rfl⟩
theorem must_c (r : Rd) (s : Str) (h : r.ok) : PFun Tryz.prog 71 [.ptr 0 0, .d (.sl [[.str s]])] [r.b] (.tup []) [(r.must s).b] := musts_c r [s] h (by simp)
theorem of_c (r : Rd) (k : Int) (h : r.ok) : PFun Tryz.prog 102 [.ptr 0 0, iv k] [r.b] (r.of k).1.v [(r.of k).2.b] := by
  refine fn_sem pok 14 1 Tryz.func102 (by kernel_rfl) rfl rfl rfl rfl ?_
  refine SWp.go pok (by kernel_rfl) ?_
  refine PFun.call (next_c r h) ?_
  have hw := h.want (k := k)
  unfold Rd.of
  refine brP_split (fun h1 => ?_) (fun h1 => ?_)
  · have h1 : ¬ r.next.kind = k := by simpa using h1
    have e : r.want k = r.fail 40 := by unfold Rd.want; rw [if_neg h1]
    rw [e] at hw ⊢
    refine PFun.call (fail_c r 40 h) ?_
    refine PFun.call (take_c _ hw.ok) ?_
    exact ⟨rfl, rfl⟩
  · have h1 : r.next.kind = k := by simpa using h1
    have e : r.want k = r := by unfold Rd.want; rw [if_pos h1]
    rw [e]
    refine PFun.call (take_c _ h) ?_
    exact ⟨rfl, rfl⟩
theorem name_c (r : Rd) (h : r.ok) : PFun Tryz.prog 66 [.ptr 0 0] [r.b] (.tup [sv' r.name.1.1, iv r.name.1.2]) [r.name.2.b] := by
  refine fn_sem pok 11 1 Tryz.func66 (by kernel_rfl) rfl rfl rfl rfl ?_
  refine SWp.go pok (by kernel_rfl) ?_
  refine PFun.call (of_c r 1 h) ?_
  exact ⟨rfl, rfl⟩
theorem pair_c (r : Rd) (h : r.ok) : PFun Tryz.prog 126 [.ptr 0 0] [r.b] (.tup [sv' r.pair.1.1, sv' r.pair.1.2]) [r.pair.2.b] := by
  refine fn_sem pok 23 1 Tryz.func126 (by kernel_rfl) rfl rfl rfl rfl ?_
  refine SWp.go pok (by kernel_rfl) ?_
  refine PFun.call (name_c r h) ?_
  refine PFun.call (must_c r.name.2 [46] h.name.ok) ?_
  refine PFun.call (name_c _ h.name.ok.must.ok) ?_
  exact ⟨rfl, rfl⟩
theorem room_c (r : Rd) (n most : Int) (h : r.ok) : PFun Tryz.prog 38 [.ptr 0 0, iv n, iv most] [r.b] (.tup []) [(r.room n most).b] := by
  refine fn_sem pok 11 1 Tryz.func38 (by kernel_rfl) rfl rfl rfl rfl ?_
  refine SWp.go pok (by kernel_rfl) ?_
  unfold Rd.room
  refine brP_split (fun h1 => ?_) (fun h1 => ?_)
  · rw [if_pos (by simpa using h1)]
    refine PFun.call (fail_c r 6 h) ?_
    exact ⟨rfl, rfl⟩
  · rw [if_neg (by simpa using h1)]
    exact ⟨rfl, rfl⟩
def icl (n : Int) : List D := [.int .i64 n]
/-- A level of operators: the signs, what they are, whether there is one at most. -/
def lvls : List (List (Str × Int) × Bool) :=
  [([([124, 124], 17)], false), ([([38, 38], 16)], false),
   ([([61, 61], 10), ([33, 61], 11), ([60], 12), ([60, 61], 13), ([62], 14), ([62, 61], 15)], true), ([([43], 8), ([45], 9)], false)]
def lvRow (l : List (Str × Int) × Bool) : List D := [.sl (l.1.map fun p => scell p.1), .sl (l.1.map fun p => icl p.2), .bool l.2]
/-- An operator is taken, if there is one. -/
def Rd.oper (r : Rd) : List (Str × Int) → (Int × Bool) × Rd
  | [] => ((0, false), r)
  | p :: l => if r.is p.1 = true then ((p.2, true), r.take) else r.oper l
theorem oper_at {r : Rd} {l : List (Str × Int)} {k : Nat} (h : k < l.length) : r.oper (l.drop k) = if r.is l[k].1 = true then ((l[k].2, true), r.take) else r.oper (l.drop (k + 1)) := by
  rw [List.drop_eq_getElem_cons h]; rfl
theorem levels_c : PFun Tryz.prog 141 [] [] (.d (.sl (lvls.map lvRow))) [] := by
  refine fn_sem pok 14 0 Tryz.func141 (by kernel_rfl) rfl rfl rfl rfl ?_
  refine SWp.go pok (by kernel_rfl) ?_
  exact fin1 rfl
theorem Rd.ok.oper {r : Rd} (h : r.ok) : ∀ l : List (Str × Int), r.to (r.oper l).2 ∧ ((r.oper l).1.2 = true → (r.oper l).2.m < r.m)
  | [] => ⟨h.to, fun e => by cases e⟩
  | p :: l => by
    rw [Rd.oper]
    split
    · rename_i hi; exact ⟨h.take, fun _ => (h.isTake hi).1⟩
    · exact h.oper l
def lvV (l : List (Str × Int) × Bool) : V := .agg [.d (.sl (l.1.map fun p => scell p.1)), .d (.sl (l.1.map fun p => icl p.2)), .d (.bool l.2)]
theorem oper_c (r : Rd) (l : List (Str × Int) × Bool) (h : r.ok) (hl : l.1.length < 1073741824) : PFun Tryz.prog 147 [.ptr 0 0, lvV l] [r.b] (ib (r.oper l.1).1) [(r.oper l.1).2.b] := by
  refine fn_sem pok 25 1 Tryz.func147 (by kernel_rfl) rfl rfl rfl rfl ?_
  refine SWp.go pok (by kernel_rfl) ?_
  refine SWp.loop (fun k : Nat => k ≤ l.1.length ∧ r.oper (l.1.drop k) = r.oper l.1) (fun k => ([(0, .ptr 0 0), (3, .ptr 1 0), (9, .d (.sl (l.1.map fun p => scell p.1))), (10, iv (l.1.map fun p => scell p.1).length), (11, iv k)], [r.b, .box [.d (.sl (l.1.map fun p => scell p.1)), .d (.sl (l.1.map fun p => icl p.2)), .d (.bool l.2)]])) (fun k => l.1.length - k) 0 ⟨Nat.zero_le _, rfl⟩ (Le.same ⟨rfl, rfl, rfl, rfl, rfl, trivial⟩) (fun k hk => ?_)
  obtain ⟨hj, hk⟩ := hk
  refine SWp.go pok (by kernel_rfl) ?_
  refine brP_split (fun h1 => ?_) (fun h1 => ?_)
  · have hlt : k < l.1.length := by simpa using h1
    have hat := oper_at (r := r) hlt
    refine PIdx.map (get_at hlt) ?_
    refine PFun.call (may_c r l.1[k].1 h) ?_
    unfold Rd.may
    refine brP_split (fun h2 => ?_) (fun h2 => ?_)
    · have h2 : r.is l.1[k].1 = true := by
        by_cases e : r.is l.1[k].1 = true
        · exact e
        · rw [if_neg e] at h2; cases h2
      rw [if_pos h2] at hat ⊢
      rw [hk] at hat
      refine PIdx.map (get_at hlt) ?_
      rw [hat]
      exact ⟨rfl, rfl⟩
    · have h2 : ¬ r.is l.1[k].1 = true := by intro e; rw [if_pos e] at h2; cases h2
      rw [if_neg h2] at hat ⊢
      exact ⟨k + 1, ⟨hlt, hat.symm.trans hk⟩, by omega, .inr ⟨[0, 1], ⟨rfl, rfl⟩, rfl, rfl, rfl, rfl, rfl, sint (wrap_nat k (by omega)), trivial⟩⟩
  · have hk' : l.1.drop k = [] := List.drop_of_length_le (by simp at h1; omega)
    rw [hk'] at hk
    rw [← hk]
    exact ⟨rfl, rfl⟩
end Go.Proofs.YtmflfcbebeikcaaGreat.Q

namespace Go.Proofs.YtmflfcbebeikcaaGreat.Q
open Go.RowKit
variable [Amb]
/-- An expression that is being made. -/
abbrev eB (op : Int) (k : List (List D)) (pl : Int) : List V := [iv op, sv' [], sv' [], iv 0, .fsl k, iv pl]
def Rd.deep (r : Rd) : Rd := if 64 ≤ r.opn then r.fail 41 else r
def Rd.more (r : Rd) (n : Int) : Rd := ⟨r.code, r.at_, r.toks, r.opn + n⟩
def Rd.enter (r : Rd) : Rd := (r.deep.more 1).take
def Rd.leave (r : Rd) : Rd := r.more (-1)
theorem Rd.ok.deepMore {r : Rd} (h : r.ok) (hc : r.code = 0) : (r.deep.more 1).ok ∧ (r.deep.more 1).m ≤ r.m ∧ (r.deep.more 1).opn = r.opn + 1 := by
  have h1 := h.o2 hc
  have h2 := h.o0
  unfold Rd.deep
  by_cases hd : 64 ≤ r.opn
  · rw [if_pos hd]
    have hf := h.fail (e := 41) (by decide)
    have hk : (r.fail 41).code = 41 := by unfold Rd.fail; rw [if_pos hc]
    refine ⟨⟨hf.ok.last, hf.ok.len, ?_, ?_, fun e => ?_⟩, hf.m, ?_⟩
    · show 0 ≤ (r.fail 41).opn + 1; rw [hf.opn]; omega
    · show (r.fail 41).opn + 1 ≤ 65; rw [hf.opn]; omega
    · exact absurd (hk.symm.trans e) (by decide)
    · show (r.fail 41).opn + 1 = _; rw [hf.opn]
  · rw [if_neg hd]
    exact ⟨⟨h.last, h.len, by show 0 ≤ r.opn + 1; omega, by show r.opn + 1 ≤ 65; omega, fun _ => by show r.opn + 1 ≤ 64; omega⟩, Nat.le_refl _, rfl⟩
theorem Rd.ok.enter {r : Rd} (h : r.ok) (hc : r.code = 0) (hk : r.hd.kind ≠ 5) : r.enter.ok ∧ r.enter.m < r.m ∧ r.enter.opn = r.opn + 1 := by
  obtain ⟨h1, h2, h3⟩ := h.deepMore hc
  have ht := h1.take
  refine ⟨ht.ok, ?_, ht.opn.trans h3⟩
  have hpos : 0 < r.m := by unfold Rd.m; rw [if_pos hc]; exact h.ne
  by_cases hd : 64 ≤ r.opn
  · have : (r.deep.more 1).code = 41 := by unfold Rd.deep; rw [if_pos hd]; unfold Rd.fail; rw [if_pos hc]; rfl
    have h0 : (r.deep.more 1).m = 0 := by unfold Rd.m; rw [this, if_neg (by decide)]
    have := ht.m
    unfold Rd.enter; omega
  · have e : r.deep.more 1 = r.more 1 := by unfold Rd.deep; rw [if_neg hd]
    have := h1.takes (by rw [e]; exact hc) (by rw [e]; exact hk)
    unfold Rd.enter; omega
theorem Rd.ok.leave {r r' : Rd} (h : r.ok) (hc : r.code = 0) (h' : r'.ok) (ho : r'.opn = r.opn + 1) (hm : r'.m ≤ r.m) : r.to r'.leave := by
  have h1 := h.o2 hc
  have h2 := h.o0
  refine ⟨⟨h'.last, h'.len, ?_, ?_, fun _ => ?_⟩, hm, ?_⟩
  · show 0 ≤ r'.opn + -1; omega
  · show r'.opn + -1 ≤ 65; omega
  · show r'.opn + -1 ≤ 64; omega
  · show r'.opn + -1 = r.opn; omega

theorem withinUna (g : FuncId) (op pl : Int) (x : Ex) (r r' : Rd) (h : r.ok) (hc : r.code = 0) (h2 : r'.opn = r.opn + 1)
    (c : PFun Tryz.prog 149 [.ptr 0 0, .ptr 2 0] [.box [.fn (.func g) [.ptr 1 0] []], r.enter.b, .box (eB op [] pl)] (.tup []) [.box [.fn (.func g) [.ptr 1 0] []], r'.b, .box (eB op [x.row] pl)]) :
    PFun Tryz.prog 67 [.ptr 0 0, .fn (.func 149) [] [.ptr 1 0, .ptr 2 0]] [r.b, .box [.fn (.func g) [.ptr 0 0] []], .box (eB op [] pl)] (.tup []) [r'.leave.b, .box [.fn (.func g) [.ptr 0 0] []], .box (eB op [x.row] pl)] := by
  have ho1 := h.o1
  have ho0 := h.o0
  have w1 : IntKind.i64.wrap (r.opn + 1) = r.opn + 1 := by rw [IntKind.wrap_i64]; omega
  have w2 : IntKind.i64.wrap (r'.opn - 1) = r'.opn + -1 := by rw [IntKind.wrap_i64]; omega
  have ct := take_c (r.deep.more 1) (h.deepMore hc).1
  unfold Rd.enter at c
  refine fn_sem pok 29 3 Tryz.func67 (by kernel_rfl) rfl rfl rfl rfl ?_
  refine SWp.go pok (by kernel_rfl) ?_
  refine brP_split (fun h1 => ?_) (fun h1 => ?_)
  · have e : r.deep.more 1 = ⟨(r.fail 41).code, (r.fail 41).at_, (r.fail 41).toks, IntKind.i64.wrap ((r.fail 41).opn + 1)⟩ := by
      rw [show (r.fail 41).opn = r.opn from (h.fail (by decide)).opn, w1]
      unfold Rd.deep Rd.more
      rw [if_pos (by simpa using h1), show (r.fail 41).opn = r.opn from (h.fail (by decide)).opn]
    rw [e] at c ct
    refine PFun.call (fail_c r 41 h) ?_
    refine PFun.call ct ?_
    refine PFun.call c ?_
    refine ⟨rfl, ?_⟩
    unfold Rd.leave Rd.more
    rw [← w2]; try rfl
  · have e : r.deep.more 1 = ⟨r.code, r.at_, r.toks, IntKind.i64.wrap (r.opn + 1)⟩ := by
      rw [w1]
      unfold Rd.deep Rd.more
      rw [if_neg (by simp at h1; omega)]
    rw [e] at c ct
    refine PFun.call ct ?_
    refine PFun.call c ?_
    refine ⟨rfl, ?_⟩
    unfold Rd.leave Rd.more
    rw [← w2]; try rfl

theorem withinTerm (x : Ex) (r r' : Rd) (h : r.ok) (hc : r.code = 0) (h2 : r'.opn = r.opn + 1)
    (c : PFun Tryz.prog 148 [.ptr 0 0, .ptr 2 0] [.box [.ptr 1 0], r.enter.b, .box (eB 0 [] 0)] (.tup []) [.box [.ptr 1 0], r'.b, .box x.cells]) :
    PFun Tryz.prog 67 [.ptr 0 0, .fn (.func 148) [] [.ptr 1 0, .ptr 2 0]] [r.b, .box [.ptr 0 0], .box (eB 0 [] 0)] (.tup []) [r'.leave.b, .box [.ptr 0 0], .box x.cells] := by
  have ho1 := h.o1
  have ho0 := h.o0
  have w1 : IntKind.i64.wrap (r.opn + 1) = r.opn + 1 := by rw [IntKind.wrap_i64]; omega
  have w2 : IntKind.i64.wrap (r'.opn - 1) = r'.opn + -1 := by rw [IntKind.wrap_i64]; omega
  have ct := take_c (r.deep.more 1) (h.deepMore hc).1
  unfold Rd.enter at c
  refine fn_sem pok 29 3 Tryz.func67 (by kernel_rfl) rfl rfl rfl rfl ?_
  refine SWp.go pok (by kernel_rfl) ?_
  refine brP_split (fun h1 => ?_) (fun h1 => ?_)
  · have e : r.deep.more 1 = ⟨(r.fail 41).code, (r.fail 41).at_, (r.fail 41).toks, IntKind.i64.wrap ((r.fail 41).opn + 1)⟩ := by
      rw [show (r.fail 41).opn = r.opn from (h.fail (by decide)).opn, w1]
      unfold Rd.deep Rd.more
      rw [if_pos (by simpa using h1), show (r.fail 41).opn = r.opn from (h.fail (by decide)).opn]
    rw [e] at c ct
    refine PFun.call (fail_c r 41 h) ?_
    refine PFun.call ct ?_
    refine PFun.call c ?_
    refine ⟨rfl, ?_⟩
    unfold Rd.leave Rd.more
    rw [← w2]; try rfl
  · have e : r.deep.more 1 = ⟨r.code, r.at_, r.toks, IntKind.i64.wrap (r.opn + 1)⟩ := by
      rw [w1]
      unfold Rd.deep Rd.more
      rw [if_neg (by simp at h1; omega)]
    rw [e] at c ct
    refine PFun.call ct ?_
    refine PFun.call c ?_
    refine ⟨rfl, ?_⟩
    unfold Rd.leave Rd.more
    rw [← w2]; try rfl

theorem withinBin (rows : List (List D)) (op pl : Int) (x : Ex) (r r' : Rd) (h : r.ok) (hc : r.code = 0) (h2 : r'.opn = r.opn + 1)
    (c : PFun Tryz.prog 149 [.ptr 0 0, .ptr 4 0] [.box [.fn (.func 146) [] [.ptr 1 0, .ptr 3 0]], .box [.ptr 2 0], r.enter.b, .box [.d (.sl rows)], .box (eB op [] pl)] (.tup []) [.box [.fn (.func 146) [] [.ptr 1 0, .ptr 3 0]], .box [.ptr 2 0], r'.b, .box [.d (.sl rows)], .box (eB op [x.row] pl)]) :
    PFun Tryz.prog 67 [.ptr 0 0, .fn (.func 149) [] [.ptr 1 0, .ptr 4 0]] [r.b, .box [.fn (.func 146) [] [.ptr 2 0, .ptr 3 0]], .box [.ptr 0 0], .box [.d (.sl rows)], .box (eB op [] pl)] (.tup []) [r'.leave.b, .box [.fn (.func 146) [] [.ptr 2 0, .ptr 3 0]], .box [.ptr 0 0], .box [.d (.sl rows)], .box (eB op [x.row] pl)] := by
  have ho1 := h.o1
  have ho0 := h.o0
  have w1 : IntKind.i64.wrap (r.opn + 1) = r.opn + 1 := by rw [IntKind.wrap_i64]; omega
  have w2 : IntKind.i64.wrap (r'.opn - 1) = r'.opn + -1 := by rw [IntKind.wrap_i64]; omega
  have ct := take_c (r.deep.more 1) (h.deepMore hc).1
  unfold Rd.enter at c
  refine fn_sem pok 29 5 Tryz.func67 (by kernel_rfl) rfl rfl rfl rfl ?_
  refine SWp.go pok (by kernel_rfl) ?_
  refine brP_split (fun h1 => ?_) (fun h1 => ?_)
  · have e : r.deep.more 1 = ⟨(r.fail 41).code, (r.fail 41).at_, (r.fail 41).toks, IntKind.i64.wrap ((r.fail 41).opn + 1)⟩ := by
      rw [show (r.fail 41).opn = r.opn from (h.fail (by decide)).opn, w1]
      unfold Rd.deep Rd.more
      rw [if_pos (by simpa using h1), show (r.fail 41).opn = r.opn from (h.fail (by decide)).opn]
    rw [e] at c ct
    refine PFun.call (fail_c r 41 h) ?_
    refine PFun.call ct ?_
    refine PFun.call c ?_
    refine ⟨rfl, ?_⟩
    unfold Rd.leave Rd.more
    rw [← w2]; try rfl
  · have e : r.deep.more 1 = ⟨r.code, r.at_, r.toks, IntKind.i64.wrap (r.opn + 1)⟩ := by
      rw [w1]
      unfold Rd.deep Rd.more
      rw [if_neg (by simp at h1; omega)]
    rw [e] at c ct
    refine PFun.call ct ?_
    refine PFun.call c ?_
    refine ⟨rfl, ?_⟩
    unfold Rd.leave Rd.more
    rw [← w2]; try rfl

theorem withinBlock (rows : List (List D)) (n : Nat) (r r' : Rd) (h : r.ok) (hc : r.code = 0) (h2 : r'.opn = r.opn + 1)
    (c : PFun Tryz.prog 105 [.ptr 0 0, .ptr 2 0] [.box [.ptr 1 0], r.enter.b, .box [.fsl []]] (.tup []) [.box [.ptr 1 0], r'.b, .box [.gsl rows 3], .tip 12 n]) :
    PFun Tryz.prog 67 [.ptr 0 0, .fn (.func 105) [] [.ptr 1 0, .ptr 2 0]] [r.b, .box [.ptr 0 0], .box [.fsl []]] (.tup []) [r'.leave.b, .box [.ptr 0 0], .box [.gsl rows 3], .tip 12 n] := by
  have ho1 := h.o1
  have ho0 := h.o0
  have w1 : IntKind.i64.wrap (r.opn + 1) = r.opn + 1 := by rw [IntKind.wrap_i64]; omega
  have w2 : IntKind.i64.wrap (r'.opn - 1) = r'.opn + -1 := by rw [IntKind.wrap_i64]; omega
  have ct := take_c (r.deep.more 1) (h.deepMore hc).1
  unfold Rd.enter at c
  refine fn_sem pok 29 3 Tryz.func67 (by kernel_rfl) rfl rfl rfl rfl ?_
  refine SWp.go pok (by kernel_rfl) ?_
  refine brP_split (fun h1 => ?_) (fun h1 => ?_)
  · have e : r.deep.more 1 = ⟨(r.fail 41).code, (r.fail 41).at_, (r.fail 41).toks, IntKind.i64.wrap ((r.fail 41).opn + 1)⟩ := by
      rw [show (r.fail 41).opn = r.opn from (h.fail (by decide)).opn, w1]
      unfold Rd.deep Rd.more
      rw [if_pos (by simpa using h1), show (r.fail 41).opn = r.opn from (h.fail (by decide)).opn]
    rw [e] at c ct
    refine PFun.call (fail_c r 41 h) ?_
    refine PFun.call ct ?_
    refine PFun.call c ?_
    refine ⟨rfl, ?_⟩
    unfold Rd.leave Rd.more
    rw [← w2]; try rfl
  · have e : r.deep.more 1 = ⟨r.code, r.at_, r.toks, IntKind.i64.wrap (r.opn + 1)⟩ := by
      rw [w1]
      unfold Rd.deep Rd.more
      rw [if_neg (by simp at h1; omega)]
    rw [e] at c ct
    refine PFun.call ct ?_
    refine PFun.call c ?_
    refine ⟨rfl, ?_⟩
    unfold Rd.leave Rd.more
    rw [← w2]; try rfl

theorem withinMon (nm : Str) (pl : Int) (vs ms : List (List D)) (n1 n2 : Nat) (r r' : Rd) (h : r.ok) (hc : r.code = 0) (h2 : r'.opn = r.opn + 1)
    (c : PFun Tryz.prog 68 [.ptr 0 0, .ptr 2 0] [.box [.ptr 1 0], r.enter.b, .box [sv' nm, .fsl [], .fsl [], iv pl]] (.tup []) [.box [.ptr 1 0], r'.b, .box [sv' nm, .gsl vs 3, .gsl ms 4, iv pl], .tip 6 n1, .tip 3 n2]) :
    PFun Tryz.prog 67 [.ptr 0 0, .fn (.func 68) [] [.ptr 1 0, .ptr 2 0]] [r.b, .box [.ptr 0 0], .box [sv' nm, .fsl [], .fsl [], iv pl]] (.tup []) [r'.leave.b, .box [.ptr 0 0], .box [sv' nm, .gsl vs 3, .gsl ms 4, iv pl], .tip 6 n1, .tip 3 n2] := by
  have ho1 := h.o1
  have ho0 := h.o0
  have w1 : IntKind.i64.wrap (r.opn + 1) = r.opn + 1 := by rw [IntKind.wrap_i64]; omega
  have w2 : IntKind.i64.wrap (r'.opn - 1) = r'.opn + -1 := by rw [IntKind.wrap_i64]; omega
  have ct := take_c (r.deep.more 1) (h.deepMore hc).1
  unfold Rd.enter at c
  refine fn_sem pok 29 3 Tryz.func67 (by kernel_rfl) rfl rfl rfl rfl ?_
  refine SWp.go pok (by kernel_rfl) ?_
  refine brP_split (fun h1 => ?_) (fun h1 => ?_)
  · have e : r.deep.more 1 = ⟨(r.fail 41).code, (r.fail 41).at_, (r.fail 41).toks, IntKind.i64.wrap ((r.fail 41).opn + 1)⟩ := by
      rw [show (r.fail 41).opn = r.opn from (h.fail (by decide)).opn, w1]
      unfold Rd.deep Rd.more
      rw [if_pos (by simpa using h1), show (r.fail 41).opn = r.opn from (h.fail (by decide)).opn]
    rw [e] at c ct
    refine PFun.call (fail_c r 41 h) ?_
    refine PFun.call ct ?_
    refine PFun.call c ?_
    refine ⟨rfl, ?_⟩
    unfold Rd.leave Rd.more
    rw [← w2]; try rfl
  · have e : r.deep.more 1 = ⟨r.code, r.at_, r.toks, IntKind.i64.wrap (r.opn + 1)⟩ := by
      rw [w1]
      unfold Rd.deep Rd.more
      rw [if_neg (by simp at h1; omega)]
    rw [e] at c ct
    refine PFun.call ct ?_
    refine PFun.call c ?_
    refine ⟨rfl, ?_⟩
    unfold Rd.leave Rd.more
    rw [← w2]; try rfl

end Go.Proofs.YtmflfcbebeikcaaGreat.Q

namespace Go.Proofs.YtmflfcbebeikcaaGreat.Q
open Go.RowKit
variable [Amb]
def ex0 : Ex := ⟨0, [], [], 0, [], 0⟩
mutual
/-- What operators of a level join, or of tighter ones (the first number: the fuel). -/
def binF : Nat → Nat → Rd → Ex × Rd
  | 0, _, r => (ex0, r)
  | f + 1, lv, r => if lv = 4 then termF f r else if lv = 2 ∧ r.is [33] = true then (⟨5, [], [], 0, [(binF f 2 r.enter).1], r.next.pl⟩, (binF f 2 r.enter).2.leave) else loopF f lv (binF f (lv + 1) r).1 (binF f (lv + 1) r).2
def loopF : Nat → Nat → Ex → Rd → Ex × Rd
  | 0, _, e, r => (e, r)
  | f + 1, lv, e, r => if (r.oper (lvls.getD lv ([], false)).1).1.2 = true then
      (if (lvls.getD lv ([], false)).2 = true then (⟨(r.oper (lvls.getD lv ([], false)).1).1.1, [], [], 0, [e, (binF f (lv + 1) (r.oper (lvls.getD lv ([], false)).1).2).1], e.pl⟩, (binF f (lv + 1) (r.oper (lvls.getD lv ([], false)).1).2).2)
       else loopF f lv ⟨(r.oper (lvls.getD lv ([], false)).1).1.1, [], [], 0, [e, (binF f (lv + 1) (r.oper (lvls.getD lv ([], false)).1).2).1], e.pl⟩ (binF f (lv + 1) (r.oper (lvls.getD lv ([], false)).1).2).2)
    else (e, (r.oper (lvls.getD lv ([], false)).1).2)
def termF : Nat → Rd → Ex × Rd
  | 0, r => (ex0, r)
  | f + 1, r =>
    if r.next.kind = 2 then
      (if r.take.is [42] = true then (⟨7, [], [], r.next.n, [(termF f r.take.enter).1], r.next.pl⟩, (termF f r.take.enter).2.leave) else (⟨1, [], [], r.next.n, [], r.next.pl⟩, r.take))
    else if r.next.kind = 1 then (⟨4, r.pair.1.1, r.pair.1.2, 0, [], r.next.pl⟩, r.pair.2)
    else if r.is [45] = true then (⟨6, [], [], 0, [(termF f r.enter).1], r.next.pl⟩, (termF f r.enter).2.leave)
    else if r.is [40] = true then ((binF f 0 r.enter).1, ((binF f 0 r.enter).2.must [41]).leave)
    else if r.is [116, 114, 117, 101] = true then (⟨2, [], [], 0, [], r.next.pl⟩, r.take)
    else if r.is [102, 97, 108, 115, 101] = true then (⟨3, [], [], 0, [], r.next.pl⟩, r.take)
    else (ex0, r.fail 40)
end
theorem Rd.is_not5 {r : Rd} {s : Str} (hi : r.is s = true) : r.code = 0 ∧ r.hd.kind ≠ 5 := by
  obtain ⟨h1, h2, _⟩ := Rd.is_code hi
  exact ⟨h1, by rcases h2 with e | e <;> rw [e] <;> decide⟩
theorem Rd.next_code {r : Rd} {k : Int} (h0 : k ≠ 0) (h : r.next.kind = k) : r.code = 0 ∧ r.hd.kind = k := by
  unfold Rd.next at h
  by_cases hc : r.code = 0
  · rw [if_pos hc] at h; exact ⟨hc, h⟩
  · rw [if_neg hc] at h; exact absurd h.symm h0
/-- The parser goes on. -/
theorem expr_to (f : Nat) : (∀ (lv : Nat) (r : Rd), r.ok → r.to (binF f lv r).2) ∧ (∀ (lv : Nat) (e : Ex) (r : Rd), r.ok → r.to (loopF f lv e r).2) ∧ (∀ r : Rd, r.ok → r.to (termF f r).2) := by
  induction f with
  | zero => exact ⟨fun lv r h => by rw [binF]; exact h.to, fun lv e r h => by rw [loopF]; exact h.to, fun r h => by rw [termF]; exact h.to⟩
  | succ f ih =>
    obtain ⟨i1, i2, i3⟩ := ih
    have ent : ∀ {r : Rd} {s : Str}, r.ok → r.is s = true → r.enter.ok ∧ ∀ r', r.enter.to r' → r.to r'.leave := fun {r s} h hi => by
      obtain ⟨c1, c2⟩ := Rd.is_not5 hi
      obtain ⟨g1, g2, g3⟩ := h.enter c1 c2
      exact ⟨g1, fun r' ht => h.leave c1 ht.ok (ht.opn.trans g3) (by have := ht.m; omega)⟩
    refine ⟨fun lv r h => ?_, fun lv e r h => ?_, fun r h => ?_⟩
    · rw [binF]
      split
      · exact i3 r h
      · split
        · rename_i hc
          obtain ⟨g1, g2⟩ := ent h hc.2
          exact g2 _ (i1 2 _ g1)
        · exact (i1 _ r h).trans (i2 _ _ _ (i1 _ r h).ok)
    · rw [loopF]
      have ho := (h.oper (lvls.getD lv ([], false)).1).1
      split
      · have hb := ho.trans (i1 (lv + 1) _ ho.ok)
        split
        · exact hb
        · exact hb.trans (i2 _ _ _ hb.ok)
      · exact ho
    · rw [termF]
      split
      · split
        · rename_i hc
          obtain ⟨g1, g2⟩ := ent h.take.ok hc
          exact h.take.trans (g2 _ (i3 _ g1))
        · exact h.take
      · split
        · exact h.pair
        · split
          · rename_i hc
            obtain ⟨g1, g2⟩ := ent h hc
            exact g2 _ (i3 _ g1)
          · split
            · rename_i hc
              obtain ⟨g1, g2⟩ := ent h hc
              exact g2 _ ((i1 0 _ g1).trans (i1 0 _ g1).ok.must)
            · split
              · exact h.take
              · split
                · exact h.take
                · exact h.fail (by decide)
theorem unary1T_c (r r' : Rd) (op pl : Int) (x : Ex) (c : PFun Tryz.prog 144 [.ptr 0 0] [r.b] x.v [r'.b]) :
    PFun Tryz.prog 149 [.ptr 0 0, .ptr 2 0] [.box [.fn (.func 144) [.ptr 1 0] []], r.b, .box (eB op [] pl)] (.tup []) [.box [.fn (.func 144) [.ptr 1 0] []], r'.b, .box (eB op [x.row] pl)] := by
  refine fn_sem pok 6 3 Tryz.func149 (by kernel_rfl) rfl rfl rfl rfl ?_
  refine SWp.go pok (by kernel_rfl) ?_
  refine PFun.call c ?_
  exact ⟨rfl, rfl⟩
theorem unaryT_c (r : Rd) (op : Int) (q : Ex × Rd) (h : r.ok) (hc : r.code = 0) (h2 : q.2.opn = r.opn + 1) (c : PFun Tryz.prog 144 [.ptr 0 0] [r.enter.b] q.1.v [q.2.b]) :
    PFun Tryz.prog 145 [.ptr 0 0, iv op, .fn (.func 144) [.ptr 0 0] []] [r.b] (Ex.mk op [] [] 0 [q.1] r.next.pl).v [q.2.leave.b] := by
  refine fn_sem pok 17 1 Tryz.func145 (by kernel_rfl) rfl rfl rfl rfl ?_
  refine SWp.go pok (by kernel_rfl) ?_
  refine PFun.call (next_c r h) ?_
  refine PFun.call (withinUna 144 op r.next.pl q.1 r q.2 h hc h2 (unary1T_c r.enter q.2 op r.next.pl q.1 c)) ?_
  exact ⟨by unfold Ex.v; rw [List.map_cons, List.map_nil, Ex.e_row], rfl⟩
theorem bin1_c (r r' : Rd) (rows : List (List D)) (x : Ex) (c : PFun Tryz.prog 140 [.ptr 0 0, .d (.sl rows)] [r.b] x.v [r'.b]) :
    PFun Tryz.prog 146 [.ptr 0 0, .ptr 2 0] [.box [.ptr 1 0], r.b, .box [.d (.sl rows)]] x.v [.box [.ptr 1 0], r'.b, .box [.d (.sl rows)]] := by
  refine fn_sem pok 6 3 Tryz.func146 (by kernel_rfl) rfl rfl rfl rfl ?_
  refine SWp.go pok (by kernel_rfl) ?_
  refine PFun.call c ?_
  exact ⟨rfl, rfl⟩
theorem unary1B_c (r r' : Rd) (op pl : Int) (rows : List (List D)) (x : Ex) (c : PFun Tryz.prog 140 [.ptr 0 0, .d (.sl rows)] [r.b] x.v [r'.b]) :
    PFun Tryz.prog 149 [.ptr 0 0, .ptr 4 0] [.box [.fn (.func 146) [] [.ptr 1 0, .ptr 3 0]], .box [.ptr 2 0], r.b, .box [.d (.sl rows)], .box (eB op [] pl)] (.tup [])
      [.box [.fn (.func 146) [] [.ptr 1 0, .ptr 3 0]], .box [.ptr 2 0], r'.b, .box [.d (.sl rows)], .box (eB op [x.row] pl)] := by
  refine fn_sem pok 6 5 Tryz.func149 (by kernel_rfl) rfl rfl rfl rfl ?_
  refine SWp.go pok (by kernel_rfl) ?_
  refine PFun.call (bin1_c r r' rows x c) ?_
  exact ⟨rfl, rfl⟩
theorem unaryB_c (r : Rd) (op : Int) (rows : List (List D)) (q : Ex × Rd) (h : r.ok) (hc : r.code = 0) (h2 : q.2.opn = r.opn + 1) (c : PFun Tryz.prog 140 [.ptr 0 0, .d (.sl rows)] [r.enter.b] q.1.v [q.2.b]) :
    PFun Tryz.prog 145 [.ptr 0 0, iv op, .fn (.func 146) [] [.ptr 1 0, .ptr 2 0]] [r.b, .box [.ptr 0 0], .box [.d (.sl rows)]] (Ex.mk op [] [] 0 [q.1] r.next.pl).v [q.2.leave.b, .box [.ptr 0 0], .box [.d (.sl rows)]] := by
  refine fn_sem pok 17 3 Tryz.func145 (by kernel_rfl) rfl rfl rfl rfl ?_
  refine SWp.go pok (by kernel_rfl) ?_
  refine PFun.call (next_c r h) ?_
  refine PFun.call (withinBin rows op r.next.pl q.1 r q.2 h hc h2 (unary1B_c r.enter q.2 op r.next.pl rows q.1 c)) ?_
  exact ⟨by unfold Ex.v; rw [List.map_cons, List.map_nil, Ex.e_row], rfl⟩
end Go.Proofs.YtmflfcbebeikcaaGreat.Q

namespace Go.Proofs.YtmflfcbebeikcaaGreat.Q
open Go.RowKit
variable [Amb]
abbrev lvD (lv : Nat) : V := .d (.sl ((lvls.drop lv).map lvRow))
abbrev BinC (f : Nat) : Prop := ∀ (lv : Nat) (r : Rd), lv ≤ 4 → r.ok → 12 * r.m + 2 * (4 - lv) + 2 ≤ f → PFun Tryz.prog 140 [.ptr 0 0, lvD lv] [r.b] (binF f lv r).1.v [(binF f lv r).2.b]
abbrev TermC (f : Nat) : Prop := ∀ (r : Rd), r.ok → 12 * r.m + 1 ≤ f → PFun Tryz.prog 144 [.ptr 0 0] [r.b] (termF f r).1.v [(termF f r).2.b]
theorem Ex.v_plain (x : Ex) : x.v = .agg [iv x.op, sv' x.mon, sv' x.name, iv x.n, .d (.sl (x.kids.map Ex.e)), iv x.pl] := rfl
theorem RL_lv (L : Nat) : RL ((lvls.drop L).map lvRow) 3 := fun r hr => by obtain ⟨t, _, rfl⟩ := List.mem_map.1 hr; rfl

theorem binL0_c (f : Nat) (ihB : ∀ g ≤ f, BinC g) (r : Rd) (h : r.ok) (hf : 12 * r.m + 10 ≤ f + 1) : PFun Tryz.prog 140 [.ptr 0 0, lvD 0] [r.b] (binF (f + 1) 0 r).1.v [(binF (f + 1) 0 r).2.b] := by
  rw [binF, if_neg (by decide)]
  refine fn_sem pok 52 1 Tryz.func140 (by kernel_rfl) rfl rfl rfl rfl ?_
  refine SWp.go pok (by kernel_rfl) ?_
  refine SWp.scope0 ?_
  refine SWp.go pok (by kernel_rfl) ?_
  rw [if_neg (fun e => absurd e.1 (by decide))]
  have hb1 := (expr_to f).1 1 r h
  have hc1 := ihB f (Nat.le_refl _) 1 r (by decide) h (by omega)
  refine ⟨⟨by decide, by decide⟩, RL_lv 0, ?_⟩
  refine ⟨_, _, hc1, ?_⟩
  generalize binF f 1 r = q at hb1
  obtain ⟨e0, r0⟩ := q
  dsimp only at hb1 ⊢
  have hm0 := hb1.m
  refine SWp.loop (fun q : Nat × Ex × Rd => q.1 ≤ f ∧ q.2.2.ok ∧ 12 * q.2.2.m + 1 ≤ q.1 ∧ loopF q.1 0 q.2.1 q.2.2 = loopF f 0 e0 r0)
    (fun q => ([(2, .ptr 1 0), (3, .ptr 2 0), (4, .ptr 3 0), (5, .ptr 4 0)], [q.2.2.b, .box [.ptr 0 0], .box [lvD 0], .box (eB 0 [] 0), .box q.2.1.cells])) (fun q => q.2.2.m) (f, e0, r0) ⟨Nat.le_refl _, hb1.ok, by dsimp only; omega, rfl⟩ (Le.same ⟨rfl, rfl, rfl, rfl, trivial⟩) (fun q hq => ?_)
  obtain ⟨f1, e, r1⟩ := q
  obtain ⟨hle, hok, hfu, he⟩ := hq
  dsimp only at hle hok hfu he
  cases f1 with
  | zero => omega
  | succ f' =>
    rw [loopF] at he
    have ho := hok.oper (lvls.getD 0 ([], false)).1
    refine SWp.go pok (by kernel_rfl) ?_
    refine PIdx.map' (l := lvls.drop 0) rfl rfl ?_
    refine ⟨_, _, oper_c r1 (lvls.getD 0 ([], false)) hok (by decide), ?_⟩
    refine brP_split (fun h1 => ?_) (fun h1 => ?_)
    · have h1 : ¬ (r1.oper (lvls.getD 0 ([], false)).1).1.2 = true := by simpa using h1
      rw [if_neg h1] at he
      rw [← he]
      exact ⟨rfl, rfl⟩
    · have h1 : (r1.oper (lvls.getD 0 ([], false)).1).1.2 = true := by simpa using h1
      rw [if_pos h1] at he
      have hlt := ho.2 h1
      have hc2 := ihB f' (by omega) 1 (r1.oper (lvls.getD 0 ([], false)).1).2 (by decide) ho.1.ok (by omega)
      have hb2 := (expr_to f').1 1 (r1.oper (lvls.getD 0 ([], false)).1).2 ho.1.ok
      refine ⟨⟨by decide, by decide⟩, RL_lv 0, ?_⟩
      refine ⟨_, _, hc2, ?_⟩
      refine PIdx.map' (l := lvls.drop 0) rfl rfl ?_
      rw [if_neg (by decide : ¬ (lvls.getD 0 ([], false)).2 = true)] at he
      exact ⟨(f', Ex.mk (r1.oper (lvls.getD 0 ([], false)).1).1.1 [] [] 0 [e, (binF f' 1 (r1.oper (lvls.getD 0 ([], false)).1).2).1] e.pl, (binF f' 1 (r1.oper (lvls.getD 0 ([], false)).1).2).2), ⟨by omega, hb2.ok, by have := hb2.m; dsimp only; omega, he⟩, by have := hb2.m; dsimp only; omega,
        .inr ⟨[0, 1, 2, 3, 4], ⟨rfl, rfl⟩, by unfold Ex.cells; simp only [List.map_cons, List.map_nil, Ex.e_row]; rfl, rfl, rfl, rfl, rfl, trivial⟩⟩

theorem binL1_c (f : Nat) (ihB : ∀ g ≤ f, BinC g) (r : Rd) (h : r.ok) (hf : 12 * r.m + 8 ≤ f + 1) : PFun Tryz.prog 140 [.ptr 0 0, lvD 1] [r.b] (binF (f + 1) 1 r).1.v [(binF (f + 1) 1 r).2.b] := by
  rw [binF, if_neg (by decide)]
  refine fn_sem pok 52 1 Tryz.func140 (by kernel_rfl) rfl rfl rfl rfl ?_
  refine SWp.go pok (by kernel_rfl) ?_
  refine SWp.scope0 ?_
  refine SWp.go pok (by kernel_rfl) ?_
  rw [if_neg (fun e => absurd e.1 (by decide))]
  have hb1 := (expr_to f).1 2 r h
  have hc1 := ihB f (Nat.le_refl _) 2 r (by decide) h (by omega)
  refine ⟨⟨by decide, by decide⟩, RL_lv 1, ?_⟩
  refine ⟨_, _, hc1, ?_⟩
  generalize binF f 2 r = q at hb1
  obtain ⟨e0, r0⟩ := q
  dsimp only at hb1 ⊢
  have hm0 := hb1.m
  refine SWp.loop (fun q : Nat × Ex × Rd => q.1 ≤ f ∧ q.2.2.ok ∧ 12 * q.2.2.m + 1 ≤ q.1 ∧ loopF q.1 1 q.2.1 q.2.2 = loopF f 1 e0 r0)
    (fun q => ([(2, .ptr 1 0), (3, .ptr 2 0), (4, .ptr 3 0), (5, .ptr 4 0)], [q.2.2.b, .box [.ptr 0 0], .box [lvD 1], .box (eB 0 [] 0), .box q.2.1.cells])) (fun q => q.2.2.m) (f, e0, r0) ⟨Nat.le_refl _, hb1.ok, by dsimp only; omega, rfl⟩ (Le.same ⟨rfl, rfl, rfl, rfl, trivial⟩) (fun q hq => ?_)
  obtain ⟨f1, e, r1⟩ := q
  obtain ⟨hle, hok, hfu, he⟩ := hq
  dsimp only at hle hok hfu he
  cases f1 with
  | zero => omega
  | succ f' =>
    rw [loopF] at he
    have ho := hok.oper (lvls.getD 1 ([], false)).1
    refine SWp.go pok (by kernel_rfl) ?_
    refine PIdx.map' (l := lvls.drop 1) rfl rfl ?_
    refine ⟨_, _, oper_c r1 (lvls.getD 1 ([], false)) hok (by decide), ?_⟩
    refine brP_split (fun h1 => ?_) (fun h1 => ?_)
    · have h1 : ¬ (r1.oper (lvls.getD 1 ([], false)).1).1.2 = true := by simpa using h1
      rw [if_neg h1] at he
      rw [← he]
      exact ⟨rfl, rfl⟩
    · have h1 : (r1.oper (lvls.getD 1 ([], false)).1).1.2 = true := by simpa using h1
      rw [if_pos h1] at he
      have hlt := ho.2 h1
      have hc2 := ihB f' (by omega) 2 (r1.oper (lvls.getD 1 ([], false)).1).2 (by decide) ho.1.ok (by omega)
      have hb2 := (expr_to f').1 2 (r1.oper (lvls.getD 1 ([], false)).1).2 ho.1.ok
      refine ⟨⟨by decide, by decide⟩, RL_lv 1, ?_⟩
      refine ⟨_, _, hc2, ?_⟩
      refine PIdx.map' (l := lvls.drop 1) rfl rfl ?_
      rw [if_neg (by decide : ¬ (lvls.getD 1 ([], false)).2 = true)] at he
      exact ⟨(f', Ex.mk (r1.oper (lvls.getD 1 ([], false)).1).1.1 [] [] 0 [e, (binF f' 2 (r1.oper (lvls.getD 1 ([], false)).1).2).1] e.pl, (binF f' 2 (r1.oper (lvls.getD 1 ([], false)).1).2).2), ⟨by omega, hb2.ok, by have := hb2.m; dsimp only; omega, he⟩, by have := hb2.m; dsimp only; omega,
        .inr ⟨[0, 1, 2, 3, 4], ⟨rfl, rfl⟩, by unfold Ex.cells; simp only [List.map_cons, List.map_nil, Ex.e_row]; rfl, rfl, rfl, rfl, rfl, trivial⟩⟩

theorem binL2_c (f : Nat) (ihB : ∀ g ≤ f, BinC g) (r : Rd) (h : r.ok) (hf : 12 * r.m + 6 ≤ f + 1) : PFun Tryz.prog 140 [.ptr 0 0, lvD 2] [r.b] (binF (f + 1) 2 r).1.v [(binF (f + 1) 2 r).2.b] := by
  rw [binF, if_neg (by decide)]
  refine fn_sem pok 52 1 Tryz.func140 (by kernel_rfl) rfl rfl rfl rfl ?_
  refine SWp.go pok (by kernel_rfl) ?_
  refine SWp.scope0 ?_
  refine SWp.go pok (by kernel_rfl) ?_
  refine PFun.call (is_c r [33] h) ?_
  by_cases hn : r.is [33] = true
  · obtain ⟨c1, c2⟩ := Rd.is_not5 hn
    obtain ⟨g1, g2, g3⟩ := h.enter c1 c2
    have hb := (ihB f (Nat.le_refl _) 2 r.enter (by decide) g1 (by omega))
    have ht := (expr_to f).1 2 r.enter g1
    rw [if_pos ⟨rfl, hn⟩]
    refine brP_true hn ?_
    refine PFun.call (unaryB_c r 5 ((lvls.drop 2).map lvRow) (binF f 2 r.enter) h c1 (ht.opn.trans g3) hb) ?_
    exact ⟨rfl, rfl⟩
  rw [if_neg (fun e => hn e.2)]
  refine brP_false (by simpa using hn) ?_
  have hb1 := (expr_to f).1 3 r h
  have hc1 := ihB f (Nat.le_refl _) 3 r (by decide) h (by omega)
  refine ⟨⟨by decide, by decide⟩, RL_lv 2, ?_⟩
  refine ⟨_, _, hc1, ?_⟩
  generalize binF f 3 r = q at hb1
  obtain ⟨e0, r0⟩ := q
  dsimp only at hb1 ⊢
  have hm0 := hb1.m
  refine SWp.loop (fun q : Nat × Ex × Rd => q.1 ≤ f ∧ q.2.2.ok ∧ 12 * q.2.2.m + 1 ≤ q.1 ∧ loopF q.1 2 q.2.1 q.2.2 = loopF f 2 e0 r0)
    (fun q => ([(2, .ptr 1 0), (3, .ptr 2 0), (4, .ptr 3 0), (5, .ptr 4 0)], [q.2.2.b, .box [.ptr 0 0], .box [lvD 2], .box (eB 0 [] 0), .box q.2.1.cells])) (fun q => q.2.2.m) (f, e0, r0) ⟨Nat.le_refl _, hb1.ok, by dsimp only; omega, rfl⟩ (Le.same ⟨rfl, rfl, rfl, rfl, trivial⟩) (fun q hq => ?_)
  obtain ⟨f1, e, r1⟩ := q
  obtain ⟨hle, hok, hfu, he⟩ := hq
  dsimp only at hle hok hfu he
  cases f1 with
  | zero => omega
  | succ f' =>
    rw [loopF] at he
    have ho := hok.oper (lvls.getD 2 ([], false)).1
    refine SWp.go pok (by kernel_rfl) ?_
    refine PIdx.map' (l := lvls.drop 2) rfl rfl ?_
    refine ⟨_, _, oper_c r1 (lvls.getD 2 ([], false)) hok (by decide), ?_⟩
    refine brP_split (fun h1 => ?_) (fun h1 => ?_)
    · have h1 : ¬ (r1.oper (lvls.getD 2 ([], false)).1).1.2 = true := by simpa using h1
      rw [if_neg h1] at he
      rw [← he]
      exact ⟨rfl, rfl⟩
    · have h1 : (r1.oper (lvls.getD 2 ([], false)).1).1.2 = true := by simpa using h1
      rw [if_pos h1] at he
      have hlt := ho.2 h1
      have hc2 := ihB f' (by omega) 3 (r1.oper (lvls.getD 2 ([], false)).1).2 (by decide) ho.1.ok (by omega)
      have hb2 := (expr_to f').1 3 (r1.oper (lvls.getD 2 ([], false)).1).2 ho.1.ok
      refine ⟨⟨by decide, by decide⟩, RL_lv 2, ?_⟩
      refine ⟨_, _, hc2, ?_⟩
      refine PIdx.map' (l := lvls.drop 2) rfl rfl ?_
      rw [if_pos (by rfl : (lvls.getD 2 ([], false)).2 = true)] at he
      rw [← he]
      exact ⟨by unfold Ex.v; simp only [List.map_cons, List.map_nil, Ex.e_row]; rfl, rfl⟩

theorem binL3_c (f : Nat) (ihB : ∀ g ≤ f, BinC g) (r : Rd) (h : r.ok) (hf : 12 * r.m + 4 ≤ f + 1) : PFun Tryz.prog 140 [.ptr 0 0, lvD 3] [r.b] (binF (f + 1) 3 r).1.v [(binF (f + 1) 3 r).2.b] := by
  rw [binF, if_neg (by decide)]
  refine fn_sem pok 52 1 Tryz.func140 (by kernel_rfl) rfl rfl rfl rfl ?_
  refine SWp.go pok (by kernel_rfl) ?_
  refine SWp.scope0 ?_
  refine SWp.go pok (by kernel_rfl) ?_
  rw [if_neg (fun e => absurd e.1 (by decide))]
  have hb1 := (expr_to f).1 4 r h
  have hc1 := ihB f (Nat.le_refl _) 4 r (by decide) h (by omega)
  refine ⟨⟨by decide, by decide⟩, RL_lv 3, ?_⟩
  refine ⟨_, _, hc1, ?_⟩
  generalize binF f 4 r = q at hb1
  obtain ⟨e0, r0⟩ := q
  dsimp only at hb1 ⊢
  have hm0 := hb1.m
  refine SWp.loop (fun q : Nat × Ex × Rd => q.1 ≤ f ∧ q.2.2.ok ∧ 12 * q.2.2.m + 1 ≤ q.1 ∧ loopF q.1 3 q.2.1 q.2.2 = loopF f 3 e0 r0)
    (fun q => ([(2, .ptr 1 0), (3, .ptr 2 0), (4, .ptr 3 0), (5, .ptr 4 0)], [q.2.2.b, .box [.ptr 0 0], .box [lvD 3], .box (eB 0 [] 0), .box q.2.1.cells])) (fun q => q.2.2.m) (f, e0, r0) ⟨Nat.le_refl _, hb1.ok, by dsimp only; omega, rfl⟩ (Le.same ⟨rfl, rfl, rfl, rfl, trivial⟩) (fun q hq => ?_)
  obtain ⟨f1, e, r1⟩ := q
  obtain ⟨hle, hok, hfu, he⟩ := hq
  dsimp only at hle hok hfu he
  cases f1 with
  | zero => omega
  | succ f' =>
    rw [loopF] at he
    have ho := hok.oper (lvls.getD 3 ([], false)).1
    refine SWp.go pok (by kernel_rfl) ?_
    refine PIdx.map' (l := lvls.drop 3) rfl rfl ?_
    refine ⟨_, _, oper_c r1 (lvls.getD 3 ([], false)) hok (by decide), ?_⟩
    refine brP_split (fun h1 => ?_) (fun h1 => ?_)
    · have h1 : ¬ (r1.oper (lvls.getD 3 ([], false)).1).1.2 = true := by simpa using h1
      rw [if_neg h1] at he
      rw [← he]
      exact ⟨rfl, rfl⟩
    · have h1 : (r1.oper (lvls.getD 3 ([], false)).1).1.2 = true := by simpa using h1
      rw [if_pos h1] at he
      have hlt := ho.2 h1
      have hc2 := ihB f' (by omega) 4 (r1.oper (lvls.getD 3 ([], false)).1).2 (by decide) ho.1.ok (by omega)
      have hb2 := (expr_to f').1 4 (r1.oper (lvls.getD 3 ([], false)).1).2 ho.1.ok
      refine ⟨⟨by decide, by decide⟩, RL_lv 3, ?_⟩
      refine ⟨_, _, hc2, ?_⟩
      refine PIdx.map' (l := lvls.drop 3) rfl rfl ?_
      rw [if_neg (by decide : ¬ (lvls.getD 3 ([], false)).2 = true)] at he
      exact ⟨(f', Ex.mk (r1.oper (lvls.getD 3 ([], false)).1).1.1 [] [] 0 [e, (binF f' 4 (r1.oper (lvls.getD 3 ([], false)).1).2).1] e.pl, (binF f' 4 (r1.oper (lvls.getD 3 ([], false)).1).2).2), ⟨by omega, hb2.ok, by have := hb2.m; dsimp only; omega, he⟩, by have := hb2.m; dsimp only; omega,
        .inr ⟨[0, 1, 2, 3, 4], ⟨rfl, rfl⟩, by unfold Ex.cells; simp only [List.map_cons, List.map_nil, Ex.e_row]; rfl, rfl, rfl, rfl, rfl, trivial⟩⟩

end Go.Proofs.YtmflfcbebeikcaaGreat.Q

namespace Go.Proofs.YtmflfcbebeikcaaGreat.Q
open Go.RowKit
variable [Amb]
theorem binL4_c (f : Nat) (ihT : TermC f) (r : Rd) (h : r.ok) (hf : 12 * r.m + 2 ≤ f + 1) : PFun Tryz.prog 140 [.ptr 0 0, lvD 4] [r.b] (binF (f + 1) 4 r).1.v [(binF (f + 1) 4 r).2.b] := by
  rw [binF, if_pos rfl]
  refine fn_sem pok 52 1 Tryz.func140 (by kernel_rfl) rfl rfl rfl rfl ?_
  refine SWp.go pok (by kernel_rfl) ?_
  refine SWp.scope0 ?_
  refine SWp.go pok (by kernel_rfl) ?_
  refine PFun.call (ihT r h (by omega)) ?_
  exact ⟨rfl, rfl⟩
theorem exprOf_c (f : Nat) (hB : BinC f) (r : Rd) (h : r.ok) (hf : 12 * r.m + 10 ≤ f) : PFun Tryz.prog 127 [.ptr 0 0] [r.b] (binF f 0 r).1.v [(binF f 0 r).2.b] := by
  refine fn_sem pok 6 1 Tryz.func127 (by kernel_rfl) rfl rfl rfl rfl ?_
  refine SWp.go pok (by kernel_rfl) ?_
  refine PFun.call levels_c ?_
  refine PFun.call (hB 0 r (by decide) h (by omega)) ?_
  exact ⟨rfl, rfl⟩
theorem term1_c (r r' : Rd) (x : Ex) (h' : r'.ok) (c : PFun Tryz.prog 127 [.ptr 0 0] [r.b] x.v [r'.b]) :
    PFun Tryz.prog 148 [.ptr 0 0, .ptr 2 0] [.box [.ptr 1 0], r.b, .box (eB 0 [] 0)] (.tup []) [.box [.ptr 1 0], (r'.must [41]).b, .box x.cells] := by
  refine fn_sem pok 7 3 Tryz.func148 (by kernel_rfl) rfl rfl rfl rfl ?_
  refine SWp.go pok (by kernel_rfl) ?_
  refine PFun.call c ?_
  refine PFun.call (must_c r' [41] h') ?_
  exact ⟨rfl, rfl⟩
theorem term_c (f : Nat) (ihB : ∀ g ≤ f, BinC g) (ihT : TermC f) (r : Rd) (h : r.ok) (hf : 12 * r.m + 1 ≤ f + 1) : PFun Tryz.prog 144 [.ptr 0 0] [r.b] (termF (f + 1) r).1.v [(termF (f + 1) r).2.b] := by
  rw [termF]
  refine fn_sem pok 78 1 Tryz.func144 (by kernel_rfl) rfl rfl rfl rfl ?_
  refine SWp.go pok (by kernel_rfl) ?_
  refine PFun.call (next_c r h) ?_
  refine brP_split (fun h1 => ?_) (fun h1 => ?_)
  · have h1 : r.next.kind = 2 := by simpa using h1
    obtain ⟨c1, c2⟩ := Rd.next_code (by decide) h1
    obtain ⟨t1, t2⟩ := h.takes c1 (by rw [c2]; decide)
    rw [if_pos h1]
    refine PFun.call (take_c r h) ?_
    refine PFun.call (is_c r.take [42] h.take.ok) ?_
    by_cases hs : r.take.is [42] = true
    · obtain ⟨d1, d2⟩ := Rd.is_not5 hs
      obtain ⟨g1, g2, g3⟩ := h.take.ok.enter d1 d2
      have ht := (expr_to f).2.2 r.take.enter g1
      rw [if_pos hs]
      refine brP_false (by rw [hs]; rfl) ?_
      refine PFun.call (unaryT_c r.take 7 (termF f r.take.enter) h.take.ok d1 (ht.opn.trans g3) (ihT _ g1 (by omega))) ?_
      exact ⟨rfl, rfl⟩
    · rw [if_neg hs]
      refine brP_true (by simpa using hs) ?_
      exact ⟨rfl, rfl⟩
  have h1 : ¬ r.next.kind = 2 := by simpa using h1
  rw [if_neg h1]
  refine brP_split (fun h2 => ?_) (fun h2 => ?_)
  · rw [if_pos (by simpa using h2)]
    refine PFun.call (pair_c r h) ?_
    exact ⟨rfl, rfl⟩
  rw [if_neg (by simpa using h2)]
  refine PFun.call (is_c r [45] h) ?_
  by_cases hs : r.is [45] = true
  · obtain ⟨d1, d2⟩ := Rd.is_not5 hs
    obtain ⟨g1, g2, g3⟩ := h.enter d1 d2
    have ht := (expr_to f).2.2 r.enter g1
    rw [if_pos hs]
    refine brP_true hs ?_
    refine PFun.call (unaryT_c r 6 (termF f r.enter) h d1 (ht.opn.trans g3) (ihT _ g1 (by omega))) ?_
    exact ⟨rfl, rfl⟩
  rw [if_neg hs]
  refine brP_false (by simpa using hs) ?_
  refine PFun.call (is_c r [40] h) ?_
  by_cases hs : r.is [40] = true
  · obtain ⟨d1, d2⟩ := Rd.is_not5 hs
    obtain ⟨g1, g2, g3⟩ := h.enter d1 d2
    have ht := (expr_to f).1 0 r.enter g1
    have hm := ht.trans ht.ok.must (c := (binF f 0 r.enter).2.must [41])
    rw [if_pos hs]
    refine brP_true hs ?_
    refine PFun.call (withinTerm (binF f 0 r.enter).1 r ((binF f 0 r.enter).2.must [41]) h d1 (hm.opn.trans g3) (term1_c r.enter (binF f 0 r.enter).2 (binF f 0 r.enter).1 ht.ok (exprOf_c f (ihB f (Nat.le_refl _)) r.enter g1 (by omega)))) ?_
    exact ⟨rfl, rfl⟩
  rw [if_neg hs]
  refine brP_false (by simpa using hs) ?_
  refine PFun.call (may_c r [116, 114, 117, 101] h) ?_
  unfold Rd.may
  by_cases hs : r.is [116, 114, 117, 101] = true
  · rw [if_pos hs, if_pos hs]
    exact ⟨rfl, rfl⟩
  rw [if_neg hs, if_neg hs]
  refine PFun.call (may_c r [102, 97, 108, 115, 101] h) ?_
  unfold Rd.may
  by_cases hs : r.is [102, 97, 108, 115, 101] = true
  · rw [if_pos hs, if_pos hs]
    exact ⟨rfl, rfl⟩
  rw [if_neg hs, if_neg hs]
  refine PFun.call (fail_c r 40 h) ?_
  exact ⟨rfl, rfl⟩
theorem expr_w (N : Nat) : ∀ f ≤ N, BinC f ∧ TermC f := by
  induction N with
  | zero => exact fun f hf => ⟨fun lv r _ _ h => by omega, fun r _ h => by omega⟩
  | succ N ih =>
    intro f hf
    cases f with
    | zero => exact ⟨fun lv r _ _ h => by omega, fun r _ h => by omega⟩
    | succ f =>
      have ihB : ∀ g ≤ f, BinC g := fun g hg => (ih g (by omega)).1
      have ihT := (ih f (by omega)).2
      refine ⟨fun lv r hl h hm => ?_, fun r h hm => term_c f ihB ihT r h hm⟩
      have : lv = 0 ∨ lv = 1 ∨ lv = 2 ∨ lv = 3 ∨ lv = 4 := by omega
      rcases this with rfl | rfl | rfl | rfl | rfl
      · exact binL0_c f ihB r h hm
      · exact binL1_c f ihB r h hm
      · exact binL2_c f ihB r h hm
      · exact binL3_c f ihB r h hm
      · exact binL4_c f ihT r h hm
/-- An expression is read. -/
def Rd.expr (r : Rd) : Ex × Rd := binF (12 * r.m + 10) 0 r
theorem expr_c (r : Rd) (h : r.ok) : PFun Tryz.prog 127 [.ptr 0 0] [r.b] r.expr.1.v [r.expr.2.b] :=
  exprOf_c _ (expr_w _ _ (Nat.le_refl _)).1 r h (Nat.le_refl _)
theorem Rd.ok.expr {r : Rd} (h : r.ok) : r.to r.expr.2 := (expr_to _).1 0 r h
end Go.Proofs.YtmflfcbebeikcaaGreat.Q

namespace Go.Proofs.YtmflfcbebeikcaaGreat.Q
open Go.RowKit
variable [Amb]
def kindT : List Str := [[115, 107, 105, 112], [105, 102], [119, 104, 105, 108, 101], [108, 111, 111, 112], [99, 104, 111, 111, 115, 101], [115, 121, 110, 99], [99, 97, 108, 108], [119, 97, 105, 116], [110, 111, 116, 105, 102, 121], [110, 111, 116, 105, 102, 121, 97, 108, 108]]
def kindN : List Int := [1, 3, 4, 5, 6, 7, 8, 9, 10, 11]
/-- The kind of statements that begin with a word. -/
def kindOf (s : Str) : Int := selI s kindT kindN 0
theorem kinds_c : PFun Tryz.prog 125 [] [] (.map 0) [.mp (kindT.map sv') (kindN.map iv)] := by
  refine fn_sem pok 3 0 Tryz.func125 (by kernel_rfl) rfl rfl rfl rfl ?_
  refine SWp.go pok (by kernel_rfl) ?_
  exact ⟨rfl, rfl⟩
theorem kindOf_in (s : Str) : kindOf s = 0 ∨ kindOf s = 1 ∨ kindOf s = 3 ∨ kindOf s = 4 ∨ kindOf s = 5 ∨ kindOf s = 6 ∨ kindOf s = 7 ∨ kindOf s = 8 ∨ kindOf s = 9 ∨ kindOf s = 10 ∨ kindOf s = 11 := by
  unfold kindOf kindT kindN
  simp only [selI]
  repeat' split
  all_goals simp
def st0 : St := ⟨0, [], [], 0, ex0, [], 0⟩
def Rd.wait (r : Rd) : Int × Rd := if r.next.kind = 2 then (if r.next.n = 0 then ((r.fail 40).next.n, (r.fail 40).take) else (r.next.n, r.take)) else (0, r)
def Rd.set_ (r : Rd) : St × Rd := (⟨2, r.pair.1.1, r.pair.1.2, 0, (r.pair.2.must [61]).expr.1, [], r.next.pl⟩, (r.pair.2.must [61]).expr.2.must [59])
def Rd.simple (r : Rd) (k pl : Int) : St × Rd :=
  if k = 8 then (⟨8, r.pair.1.1, r.pair.1.2, 0, ex0, [], pl⟩, r.pair.2.must [59]) else
  if k = 9 then (⟨9, r.name.1.1, [], r.name.2.wait.1, ex0, [], pl⟩, r.name.2.wait.2.must [59]) else
  if k = 10 ∨ k = 11 then (⟨k, r.name.1.1, [], 0, ex0, [], pl⟩, r.name.2.must [59]) else (⟨k, [], [], 0, ex0, [], pl⟩, r.must [59])
/-- What a statement with blocks has ahead of them. -/
def Rd.head (r : Rd) (k : Int) : (Str × Ex) × Rd := if k = 3 ∨ k = 4 then (([], r.expr.1), r.expr.2) else if k = 7 then ((r.name.1.1, ex0), r.name.2) else (([], ex0), r)
mutual
def stmtF : Nat → Rd → St × Rd
  | 0, r => (st0, r)
  | f + 1, r => if r.next.kind = 1 then r.set_ else if ¬ r.next.kind = 3 ∨ kindOf r.next.text = 0 then (⟨kindOf r.next.text, [], [], 0, ex0, [], r.next.pl⟩, r.fail 40) else
    if 3 ≤ kindOf r.next.text ∧ kindOf r.next.text ≤ 7 then compF f (kindOf r.next.text) r.next.pl r.take else r.take.simple (kindOf r.next.text) r.next.pl
def compF : Nat → Int → Int → Rd → St × Rd
  | 0, _, _, r => (st0, r)
  | f + 1, k, pl, r =>
    if k = 3 then (if (blockF f (r.head k).2).2.is [101, 108, 115, 101] = true then
        (⟨k, (r.head k).1.1, [], 0, (r.head k).1.2, [(blockF f (r.head k).2).1, (blockF f (blockF f (r.head k).2).2.take).1], pl⟩, (blockF f (blockF f (r.head k).2).2.take).2)
      else (⟨k, (r.head k).1.1, [], 0, (r.head k).1.2, [(blockF f (r.head k).2).1], pl⟩, (blockF f (r.head k).2).2))
    else if k = 6 then (⟨k, (r.head k).1.1, [], 0, (r.head k).1.2, (orF f [(blockF f (r.head k).2).1] (blockF f (r.head k).2).2).1, pl⟩, (orF f [(blockF f (r.head k).2).1] (blockF f (r.head k).2).2).2)
    else (⟨k, (r.head k).1.1, [], 0, (r.head k).1.2, [(blockF f (r.head k).2).1], pl⟩, (blockF f (r.head k).2).2)
def orF : Nat → List (List St) → Rd → List (List St) × Rd
  | 0, l, r => (l, r)
  | f + 1, l, r => if r.is [111, 114] = true then orF f (l ++ [(blockF f (r.room l.length 8).take).1]) (blockF f (r.room l.length 8).take).2 else (l, r)
def blockF : Nat → Rd → List St × Rd
  | 0, r => ([], r)
  | f + 1, r => if r.is [123] = true then ((stmtsF f [] r.enter).1, ((stmtsF f [] r.enter).2.must [125]).leave) else ([], r.fail 40)
def stmtsF : Nat → List St → Rd → List St × Rd
  | 0, l, r => (l, r)
  | f + 1, l, r => if r.code = 0 ∧ ¬ r.is [125] = true then stmtsF f (l ++ [(stmtF f r).1]) (stmtF f r).2 else (l, r)
end
theorem Rd.ok.wait {r : Rd} (h : r.ok) : r.to r.wait.2 := by
  unfold Rd.wait
  split
  · split
    · exact (h.fail (by decide)).trans (h.fail (by decide)).ok.take
    · exact h.take
  · exact h.to
theorem Rd.ok.set_ {r : Rd} (h : r.ok) : r.to r.set_.2 := by
  have h1 := h.pair
  have h2 := h1.trans h1.ok.must (c := r.pair.2.must [61])
  have h3 := h2.trans h2.ok.expr
  exact h3.trans h3.ok.must
theorem Rd.ok.simple {r : Rd} (h : r.ok) (k pl : Int) : r.to (r.simple k pl).2 := by
  unfold Rd.simple
  split
  · exact h.pair.trans h.pair.ok.must
  split
  · have := h.name.trans h.name.ok.wait
    exact this.trans this.ok.must
  split
  · exact h.name.trans h.name.ok.must
  · exact h.must
theorem Rd.ok.head {r : Rd} (h : r.ok) (k : Int) : r.to (r.head k).2 := by
  unfold Rd.head
  split
  · exact h.expr
  split
  · exact h.name
  · exact h.to
theorem ent {r : Rd} {s : Str} (h : r.ok) (hi : r.is s = true) : r.enter.ok ∧ ∀ r' : Rd, r.enter.to r' → r.to r'.leave ∧ r'.leave.m < r.m := by
  obtain ⟨c1, c2⟩ := Rd.is_not5 hi
  obtain ⟨g1, g2, g3⟩ := h.enter c1 c2
  exact ⟨g1, fun r' ht => ⟨h.leave c1 ht.ok (ht.opn.trans g3) (by have := ht.m; omega), by have := ht.m; show r'.m < r.m; omega⟩⟩
theorem stmt_to (f : Nat) : (∀ r : Rd, r.ok → r.to (stmtF f r).2) ∧ (∀ (k pl : Int) (r : Rd), r.ok → r.to (compF f k pl r).2) ∧ (∀ (l : List (List St)) (r : Rd), r.ok → r.to (orF f l r).2) ∧ (∀ r : Rd, r.ok → r.to (blockF f r).2) ∧ (∀ (l : List St) (r : Rd), r.ok → r.to (stmtsF f l r).2) := by
  induction f with
  | zero => exact ⟨fun r h => by rw [stmtF]; exact h.to, fun k pl r h => by rw [compF]; exact h.to, fun l r h => by rw [orF]; exact h.to, fun r h => by rw [blockF]; exact h.to, fun l r h => by rw [stmtsF]; exact h.to⟩
  | succ f ih =>
    obtain ⟨i1, i2, i3, i4, i5⟩ := ih
    refine ⟨fun r h => ?_, fun k pl r h => ?_, fun l r h => ?_, fun r h => ?_, fun l r h => ?_⟩
    · rw [stmtF]
      split
      · exact h.set_
      split
      · exact h.fail (by decide)
      split
      · exact h.take.trans (i2 _ _ _ h.take.ok)
      · exact h.take.trans (h.take.ok.simple _ _)
    · have hb := (h.head k).trans (i4 _ (h.head k).ok)
      rw [compF]
      split
      · split
        · have hc := hb.trans hb.ok.take
          exact hc.trans (i4 _ hc.ok)
        · exact hb
      split
      · exact hb.trans (i3 _ _ hb.ok)
      · exact hb
    · rw [orF]
      split
      · have h1 := h.room.trans h.room.ok.take (c := (r.room l.length 8).take)
        have h2 := h1.trans (i4 _ h1.ok)
        exact h2.trans (i3 _ _ h2.ok)
      · exact h.to
    · rw [blockF]
      split
      · rename_i hi
        obtain ⟨g1, g2⟩ := ent h hi
        have := i5 [] _ g1
        exact (g2 _ (this.trans this.ok.must)).1
      · exact h.fail (by decide)
    · rw [stmtsF]
      split
      · exact (i1 r h).trans (i5 _ _ (i1 r h).ok)
      · exact h.to
theorem Rd.fail_m {r : Rd} (hc : r.code = 0) (h : r.ok) {e : Int} (he : e ≠ 0) : (r.fail e).m < r.m := by
  have hpos : 0 < r.m := by unfold Rd.m; rw [if_pos hc]; exact h.ne
  have : (r.fail e).m = 0 := by
    unfold Rd.fail; rw [if_pos hc]
    unfold Rd.m; rw [if_neg he]
  omega
/-- A statement takes something, or fails. -/
theorem stmt_lt (f : Nat) (r : Rd) (h : r.ok) (hc : r.code = 0) : (stmtF (f + 1) r).2.m < r.m := by
  have hn : r.next = r.hd := by unfold Rd.next; rw [if_pos hc]
  rw [stmtF, hn]
  split
  · rename_i hk
    obtain ⟨t1, _⟩ := h.takes hc (by rw [hk]; decide)
    have e : r.name.2 = r.take := by
      unfold Rd.name Rd.of Rd.want
      rw [hn, if_pos hk]
    have h1 := h.name
    have hp : r.pair.2.m ≤ r.name.2.m := (h1.ok.must.trans h1.ok.must.ok.name).m
    have h2 := h.pair.ok.must (s := [61])
    have h3 := h2.trans h2.ok.expr
    have h4 := (h3.trans h3.ok.must (c := r.set_.2)).m
    rw [e] at hp
    omega
  split
  · exact Rd.fail_m hc h (by decide)
  · rename_i hk3
    have hk : r.hd.kind = 3 := Classical.byContradiction fun e => hk3 (.inl e)
    obtain ⟨t1, _⟩ := h.takes hc (by rw [hk]; decide)
    split
    · have := ((stmt_to f).2.1 (kindOf r.hd.text) r.hd.pl r.take h.take.ok).m
      omega
    · have := (h.take.ok.simple (kindOf r.hd.text) r.hd.pl).m
      omega
end Go.Proofs.YtmflfcbebeikcaaGreat.Q

namespace Go.Proofs.YtmflfcbebeikcaaGreat.Q
open Go.RowKit
variable [Amb]
def St.rw_ (x : St) : List D := [.int .i64 x.kind, .str x.mon, .str x.name, .int .i64 x.n, .int .i64 x.e.op, .str x.e.mon, .str x.e.name, .int .i64 x.e.n, .sl (x.e.kids.map Ex.e), .int .i64 x.e.pl, .sl (x.blocks.map blk), .int .i64 x.pl]
theorem St.c_rw (x : St) : x.c = x.rw_ := by rw [St.c_eq, Ex.e_row]; rfl
abbrev StmtC (f : Nat) : Prop := ∀ r : Rd, r.ok → 8 * r.m + 1 ≤ f → PFun Tryz.prog 106 [.ptr 0 0] [r.b] (stmtF f r).1.v [(stmtF f r).2.b]
abbrev BlockC (f : Nat) : Prop := ∀ r : Rd, r.ok → 8 * r.m + 3 ≤ f → PFun Tryz.prog 72 [.ptr 0 0] [r.b] (.d (.sl ((blockF f r).1.map St.c))) [(blockF f r).2.b]
theorem Rd.m_len (r : Rd) : r.m ≤ r.toks.length := by unfold Rd.m; split <;> omega
theorem RL_st (l : List St) : RL (l.map St.c) 12 := fun r hr => by
  obtain ⟨t, _, rfl⟩ := List.mem_map.1 hr
  rw [St.c_eq, Ex.e_row]; rfl
theorem block1_c (f : Nat) (ihS : ∀ g ≤ f, StmtC g) (r : Rd) (h : r.ok) (hf : 8 * r.m + 2 ≤ f + 1) :
    PFun Tryz.prog 105 [.ptr 0 0, .ptr 2 0] [.box [.ptr 1 0], r.b, .box [.fsl []]] (.tup [])
      [.box [.ptr 1 0], ((stmtsF (f + 1) [] r).2.must [125]).b, .box [.gsl ((stmtsF (f + 1) [] r).1.map St.c) 3], .tip 12 (stmtsF (f + 1) [] r).1.length] := by
  refine fn_sem pok 21 3 Tryz.func105 (by kernel_rfl) rfl rfl rfl rfl ?_
  refine SWp.go pok (by kernel_rfl) ?_
  refine SWp.tipBox 2 0 12 rfl rfl ?_
  refine SWp.loop (fun q : Nat × List St × List (List D) × Rd => q.1 ≤ f + 1 ∧ q.2.2.1 = q.2.1.map St.c ∧ q.2.2.2.ok ∧ 8 * q.2.2.2.m + 2 ≤ q.1 ∧ q.2.1.length + q.2.2.2.m ≤ r.m ∧ stmtsF q.1 q.2.1 q.2.2.2 = stmtsF (f + 1) [] r)
    (fun q => ([(0, .ptr 0 0), (1, .ptr 2 0)], [.box [.ptr 1 0], q.2.2.2.b, .box [.gsl q.2.2.1 3], .tip 12 q.2.1.length])) (fun q => q.2.2.2.m) (f + 1, [], [], r) ⟨Nat.le_refl _, rfl, h, hf, by dsimp only; simp, rfl⟩ (Le.same ⟨rfl, rfl, trivial⟩) (fun q hq => ?_)
  obtain ⟨f1, l, rows, r1⟩ := q
  obtain ⟨hle, hrw, hok, hfu, hln, he⟩ := hq
  dsimp only at hle hrw hok hfu hln he
  subst hrw
  have hml := r.m_len
  have hl0 := h.len
  cases f1 with
  | zero => omega
  | succ f' =>
    rw [stmtsF] at he
    refine SWp.go pok (by kernel_rfl) ?_
    by_cases hc : r1.code = 0 ∧ ¬ r1.is [125] = true
    · rw [if_pos hc] at he
      refine brP_true (by simpa using hc.1) ?_
      refine PFun.call (is_c r1 [125] hok) ?_
      refine brP_true (by simpa using hc.2) ?_
      have hpos : 0 < r1.m := by unfold Rd.m; rw [if_pos hc.1]; exact hok.ne
      cases f' with
      | zero => omega
      | succ f'' =>
        have hlt := stmt_lt f'' r1 hok hc.1
        have hto := (stmt_to (f'' + 1)).1 r1 hok
        refine ⟨_, _, ihS (f'' + 1) (by omega) r1 hok (by omega), ?_⟩
        generalize stmtF (f'' + 1) r1 = q at he hlt hto
        obtain ⟨x, r2⟩ := q
        dsimp only at he hlt hto
        refine ⟨⟨by simp, RL_st l, fun r hr => by simp at hr; subst hr; rfl, by simp; omega⟩, ?_⟩
        refine ⟨(f'' + 1, l ++ [x], (l ++ [x]).map St.c, r2), ⟨by omega, rfl, hto.ok, by dsimp only; omega, by dsimp only; rw [List.length_append, List.length_singleton]; omega, he⟩, hlt, .inr ⟨[0, 1, 2, 3], ⟨rfl, rfl⟩, ?_, rfl, rfl, trivial⟩⟩
        simp only [List.map_append, List.map_cons, List.map_nil, St.c_rw, List.length_append, List.length_map]
        rfl
    · rw [if_neg hc] at he
      rw [← he]
      by_cases hc0 : r1.code = 0
      · have h1 : r1.is [125] = true := Classical.byContradiction fun e => hc ⟨hc0, e⟩
        refine brP_true (by simpa using hc0) ?_
        refine PFun.call (is_c r1 [125] hok) ?_
        refine brP_false (by simpa using h1) ?_
        refine PFun.call (must_c r1 [125] hok) ?_
        exact ⟨rfl, rfl⟩
      · refine brP_false (by simpa using hc0) ?_
        refine PFun.call (must_c r1 [125] hok) ?_
        exact ⟨rfl, rfl⟩
theorem block_w (f : Nat) (ihS : ∀ g ≤ f, StmtC g) (r : Rd) (h : r.ok) (hf : 8 * r.m + 3 ≤ f + 2) :
    PFun Tryz.prog 72 [.ptr 0 0] [r.b] (.d (.sl ((blockF (f + 2) r).1.map St.c))) [(blockF (f + 2) r).2.b] := by
  rw [blockF]
  refine fn_sem pok 12 1 Tryz.func72 (by kernel_rfl) rfl rfl rfl rfl ?_
  refine SWp.go pok (by kernel_rfl) ?_
  refine PFun.call (is_c r [123] h) ?_
  by_cases hi : r.is [123] = true
  · obtain ⟨c1, c2⟩ := Rd.is_not5 hi
    obtain ⟨g1, g2, g3⟩ := h.enter c1 c2
    have ht := (stmt_to (f + 1)).2.2.2.2 [] r.enter g1
    have hm := ht.trans ht.ok.must (c := (stmtsF (f + 1) [] r.enter).2.must [125])
    rw [if_pos hi]
    refine brP_false (by rw [hi]; rfl) ?_
    refine PFun.call (withinBlock _ _ r ((stmtsF (f + 1) [] r.enter).2.must [125]) h c1 (hm.opn.trans g3) (block1_c f ihS r.enter g1 (by omega))) ?_
    exact ⟨rfl, rfl⟩
  · rw [if_neg hi]
    refine brP_true (by simpa using hi) ?_
    refine PFun.call (fail_c r 40 h) ?_
    exact ⟨rfl, rfl⟩
end Go.Proofs.YtmflfcbebeikcaaGreat.Q

namespace Go.Proofs.YtmflfcbebeikcaaGreat.Q
open Go.RowKit
variable [Amb]

theorem Rd.ok.entM {r : Rd} {s : Str} (h : r.ok) (hi : r.is s = true) : r.enter.ok ∧ r.enter.m < r.m := by
  obtain ⟨c1, c2⟩ := Rd.is_not5 hi
  obtain ⟨g1, g2, g3⟩ := h.enter c1 c2
  exact ⟨g1, g2⟩
theorem expr_fuel : ∀ N : Nat, (∀ f g lv r, f ≤ N → g ≤ N → Rd.ok r → lv ≤ 4 → 12 * r.m + 2 * (4 - lv) + 2 ≤ f → 12 * r.m + 2 * (4 - lv) + 2 ≤ g → binF f lv r = binF g lv r) ∧
    (∀ f g lv e r, f ≤ N → g ≤ N → Rd.ok r → lv ≤ 3 → 12 * r.m + 1 ≤ f → 12 * r.m + 1 ≤ g → loopF f lv e r = loopF g lv e r) ∧
    (∀ f g r, f ≤ N → g ≤ N → Rd.ok r → 12 * r.m + 1 ≤ f → 12 * r.m + 1 ≤ g → termF f r = termF g r) := by
  intro N
  induction N with
  | zero => exact ⟨fun f g lv r _ _ _ _ h1 h2 => by omega, fun f g lv e r _ _ _ _ h1 h2 => by omega, fun f g r _ _ _ h1 h2 => by omega⟩
  | succ N ih =>
    obtain ⟨iB, iL, iT⟩ := ih
    refine ⟨fun f g lv r hf hg h hlv h1 h2 => ?_, fun f g lv e r hf hg h hlv h1 h2 => ?_, fun f g r hf hg h h1 h2 => ?_⟩
    · cases f with
      | zero => omega
      | succ f =>
      cases g with
      | zero => omega
      | succ g =>
      rw [binF, binF]
      by_cases h4 : lv = 4
      · rw [if_pos h4, if_pos h4]
        exact iT f g r (by omega) (by omega) h (by omega) (by omega)
      rw [if_neg h4, if_neg h4]
      by_cases hn : lv = 2 ∧ r.is [33] = true
      · rw [if_pos hn, if_pos hn]
        obtain ⟨g1, g2⟩ := h.entM hn.2
        rw [iB f g 2 r.enter (by omega) (by omega) g1 (by omega) (by omega) (by omega)]
      rw [if_neg hn, if_neg hn]
      have ht := (expr_to g).1 (lv + 1) r h
      have hm := ht.m
      rw [iB f g (lv + 1) r (by omega) (by omega) h (by omega) (by omega) (by omega)]
      exact iL f g lv _ _ (by omega) (by omega) ht.ok (by omega) (by omega) (by omega)
    · cases f with
      | zero => omega
      | succ f =>
      cases g with
      | zero => omega
      | succ g =>
      rw [loopF, loopF]
      have ho := h.oper (lvls.getD lv ([], false)).1
      by_cases hc : (r.oper (lvls.getD lv ([], false)).1).1.2 = true
      · rw [if_pos hc, if_pos hc]
        have hlt := ho.2 hc
        have ht := (expr_to g).1 (lv + 1) _ ho.1.ok
        have hm := ht.m
        rw [iB f g (lv + 1) (r.oper (lvls.getD lv ([], false)).1).2 (by omega) (by omega) ho.1.ok (by omega) (by omega) (by omega)]
        split
        · rfl
        · exact iL f g lv _ _ (by omega) (by omega) ht.ok (by omega) (by omega) (by omega)
      · rw [if_neg hc, if_neg hc]
    · cases f with
      | zero => omega
      | succ f =>
      cases g with
      | zero => omega
      | succ g =>
      rw [termF, termF]
      by_cases hk : r.next.kind = 2
      · rw [if_pos hk, if_pos hk]
        by_cases hs : r.take.is [42] = true
        · rw [if_pos hs, if_pos hs]
          obtain ⟨g1, g2⟩ := h.take.ok.entM hs
          have := h.take.m
          rw [iT f g r.take.enter (by omega) (by omega) g1 (by omega) (by omega)]
        · rw [if_neg hs, if_neg hs]
      rw [if_neg hk, if_neg hk]
      by_cases hk : r.next.kind = 1
      · rw [if_pos hk, if_pos hk]
      rw [if_neg hk, if_neg hk]
      by_cases hs : r.is [45] = true
      · rw [if_pos hs, if_pos hs]
        obtain ⟨g1, g2⟩ := h.entM hs
        rw [iT f g r.enter (by omega) (by omega) g1 (by omega) (by omega)]
      rw [if_neg hs, if_neg hs]
      by_cases hs : r.is [40] = true
      · rw [if_pos hs, if_pos hs]
        obtain ⟨g1, g2⟩ := h.entM hs
        rw [iB f g 0 r.enter (by omega) (by omega) g1 (by omega) (by omega) (by omega)]
      rw [if_neg hs, if_neg hs]
/-- The parser's expressions of a level; what joins more; what no operator joins. -/
def Rd.bin (lv : Nat) (r : Rd) : Ex × Rd := binF (12 * r.m + 2 * (4 - lv) + 2) lv r
def Rd.loop (lv : Nat) (e : Ex) (r : Rd) : Ex × Rd := loopF (12 * r.m + 1) lv e r
def Rd.term (r : Rd) : Ex × Rd := termF (12 * r.m + 1) r
abbrev lvl (lv : Nat) : List (Str × Int) := (lvls.getD lv ([], false)).1
theorem Rd.expr_bin (r : Rd) : r.expr = r.bin 0 := rfl
theorem Rd.ok.bin {r : Rd} (h : r.ok) (lv : Nat) : r.to (r.bin lv).2 := (expr_to _).1 lv r h
theorem Rd.ok.loop {r : Rd} (h : r.ok) (lv : Nat) (e : Ex) : r.to (r.loop lv e).2 := (expr_to _).2.1 lv e r h
theorem Rd.ok.term {r : Rd} (h : r.ok) : r.to r.term.2 := (expr_to _).2.2 r h
theorem bin_of {f lv : Nat} {r : Rd} (h : r.ok) (hlv : lv ≤ 4) (hf : 12 * r.m + 2 * (4 - lv) + 2 ≤ f) : binF f lv r = r.bin lv :=
  (expr_fuel (f + (12 * r.m + 2 * (4 - lv) + 2))).1 f _ lv r (by omega) (by omega) h hlv hf (Nat.le_refl _)
theorem loop_of {f lv : Nat} {e : Ex} {r : Rd} (h : r.ok) (hlv : lv ≤ 3) (hf : 12 * r.m + 1 ≤ f) : loopF f lv e r = r.loop lv e :=
  (expr_fuel (f + (12 * r.m + 1))).2.1 f _ lv e r (by omega) (by omega) h hlv hf (Nat.le_refl _)
theorem term_of {f : Nat} {r : Rd} (h : r.ok) (hf : 12 * r.m + 1 ≤ f) : termF f r = r.term :=
  (expr_fuel (f + (12 * r.m + 1))).2.2 f _ r (by omega) (by omega) h hf (Nat.le_refl _)
theorem Rd.bin4 {r : Rd} (h : r.ok) : r.bin 4 = r.term := by
  unfold Rd.bin
  rw [show 12 * r.m + 2 * (4 - 4) + 2 = (12 * r.m + 1) + 1 by omega, binF, if_pos rfl]
  exact term_of h (by omega)
theorem Rd.binNot {r : Rd} (h : r.ok) (hi : r.is [33] = true) : r.bin 2 = (⟨5, [], [], 0, [(r.enter.bin 2).1], r.next.pl⟩, (r.enter.bin 2).2.leave) := by
  obtain ⟨g1, g2⟩ := h.entM hi
  unfold Rd.bin
  rw [show 12 * r.m + 2 * (4 - 2) + 2 = (12 * r.m + 5) + 1 by omega, binF, if_neg (by decide), if_pos ⟨rfl, hi⟩, bin_of g1 (by decide) (by omega)]
  rfl
theorem Rd.bin_eq {r : Rd} (h : r.ok) {lv : Nat} (hlv : lv ≤ 3) (hi : ¬ (lv = 2 ∧ r.is [33] = true)) : r.bin lv = (r.bin (lv + 1)).2.loop lv (r.bin (lv + 1)).1 := by
  have ht := h.bin (lv + 1)
  have hm := ht.m
  rw [show r.bin lv = binF (12 * r.m + 2 * (4 - lv) + 2) lv r from rfl, show 12 * r.m + 2 * (4 - lv) + 2 = (12 * r.m + 2 * (4 - lv) + 1) + 1 by omega, binF, if_neg (by omega), if_neg hi, bin_of h (by omega) (by omega)]
  exact loop_of ht.ok hlv (by omega)
theorem Rd.loop_eq {r : Rd} (h : r.ok) {lv : Nat} (hlv : lv ≤ 3) (e : Ex) : r.loop lv e =
    if (r.oper (lvl lv)).1.2 = true then
      (if (lvls.getD lv ([], false)).2 = true then (⟨(r.oper (lvl lv)).1.1, [], [], 0, [e, ((r.oper (lvl lv)).2.bin (lv + 1)).1], e.pl⟩, ((r.oper (lvl lv)).2.bin (lv + 1)).2)
       else ((r.oper (lvl lv)).2.bin (lv + 1)).2.loop lv ⟨(r.oper (lvl lv)).1.1, [], [], 0, [e, ((r.oper (lvl lv)).2.bin (lv + 1)).1], e.pl⟩)
    else (e, (r.oper (lvl lv)).2) := by
  have ho := h.oper (lvl lv)
  rw [show r.loop lv e = loopF (12 * r.m + 1) lv e r from rfl, loopF]
  by_cases hc : (r.oper (lvl lv)).1.2 = true
  · rw [if_pos hc, if_pos hc]
    have hlt := ho.2 hc
    have ht := ho.1.ok.bin (lv + 1)
    have hm := ht.m
    rw [bin_of ho.1.ok (by omega) (by omega)]
    split
    · rfl
    · exact loop_of ht.ok hlv (by omega)
  · rw [if_neg hc, if_neg hc]
theorem Rd.term_eq {r : Rd} (h : r.ok) : r.term =
    if r.next.kind = 2 then
      (if r.take.is [42] = true then (⟨7, [], [], r.next.n, [r.take.enter.term.1], r.next.pl⟩, r.take.enter.term.2.leave) else (⟨1, [], [], r.next.n, [], r.next.pl⟩, r.take))
    else if r.next.kind = 1 then (⟨4, r.pair.1.1, r.pair.1.2, 0, [], r.next.pl⟩, r.pair.2)
    else if r.is [45] = true then (⟨6, [], [], 0, [r.enter.term.1], r.next.pl⟩, r.enter.term.2.leave)
    else if r.is [40] = true then ((r.enter.bin 0).1, ((r.enter.bin 0).2.must [41]).leave)
    else if r.is [116, 114, 117, 101] = true then (⟨2, [], [], 0, [], r.next.pl⟩, r.take)
    else if r.is [102, 97, 108, 115, 101] = true then (⟨3, [], [], 0, [], r.next.pl⟩, r.take)
    else (ex0, r.fail 40) := by
  rw [show r.term = termF (12 * r.m + 1) r from rfl, termF]
  by_cases hk : r.next.kind = 2
  · rw [if_pos hk, if_pos hk]
    by_cases hs : r.take.is [42] = true
    · rw [if_pos hs, if_pos hs]
      obtain ⟨g1, g2⟩ := h.take.ok.entM hs
      have := h.take.m
      rw [term_of g1 (by omega)]
    · rw [if_neg hs, if_neg hs]
  rw [if_neg hk, if_neg hk]
  by_cases hk : r.next.kind = 1
  · rw [if_pos hk, if_pos hk]
  rw [if_neg hk, if_neg hk]
  by_cases hs : r.is [45] = true
  · rw [if_pos hs, if_pos hs]
    obtain ⟨g1, g2⟩ := h.entM hs
    rw [term_of g1 (by omega)]
  rw [if_neg hs, if_neg hs]
  by_cases hs : r.is [40] = true
  · rw [if_pos hs, if_pos hs]
    obtain ⟨g1, g2⟩ := h.entM hs
    rw [bin_of g1 (by decide) (by omega)]
  rw [if_neg hs, if_neg hs]
end Go.Proofs.YtmflfcbebeikcaaGreat.Q

namespace Go.Proofs.YtmflfcbebeikcaaGreat.Q
open Go.RowKit
variable [Amb]

/-! ### tokens, readers -/
def Tk.sg (t : Tk) (s : Str) : Prop := (t.kind = 3 ∨ t.kind = 4) ∧ t.text = s
def Tk.nm (t : Tk) (s : Str) : Prop := t.kind = 1 ∧ t.text = s
def Tk.nu (t : Tk) (n : Int) : Prop := t.kind = 2 ∧ t.n = n
abbrev rd (a o : Int) (l : List Tk) : Rd := ⟨0, a, l, o⟩
structure Tl (l : List Tk) : Prop where
  last : ∃ k t, l = k ++ [t] ∧ t.kind = 5
  len : l.length < 1073741824
theorem Tl.ok {l : List Tk} (h : Tl l) {a o : Int} (h0 : 0 ≤ o) (h1 : o ≤ 64) : (rd a o l).ok := ⟨h.last, h.len, h0, by show o ≤ 65; omega, fun _ => h1⟩
theorem Tl.drop {ts rest : List Tk} (h : Tl (ts ++ rest)) (hr : rest ≠ []) : Tl rest := by
  obtain ⟨k, t, e, h5⟩ := h.last
  rcases List.eq_nil_or_concat rest with rfl | ⟨k', t', rfl⟩
  · exact absurd rfl hr
  · rw [List.concat_eq_append] at e ⊢
    rw [← List.append_assoc] at e
    obtain ⟨_, e2⟩ := List.append_inj' e rfl
    refine ⟨⟨k', t', rfl, ?_⟩, by have := h.len; rw [List.length_append, List.concat_eq_append] at this; omega⟩
    injection e2 with e2; rw [e2]; exact h5
theorem Tl.tail {t : Tk} {rest : List Tk} (h : Tl (t :: rest)) (hr : rest ≠ []) : Tl rest := Tl.drop (ts := [t]) h hr
theorem rd_next (a o : Int) (t : Tk) (l : List Tk) : (rd a o (t :: l)).next = t := rfl
theorem rd_is (a o : Int) (t : Tk) (l : List Tk) (s : Str) : (rd a o (t :: l)).is s = true ↔ t.sg s := by
  unfold Rd.is Tk.sg
  rw [rd_next]
  simp only [Bool.and_eq_true, Bool.or_eq_true, beq_iff_eq]
theorem rd_take (a o : Int) (t : Tk) {l : List Tk} (h : l ≠ []) : (rd a o (t :: l)).take = rd a o l := by
  unfold Rd.take
  rw [if_pos ⟨rfl, by cases l with | nil => exact absurd rfl h | cons x l => simp⟩]
  rfl
theorem rd_enter (a : Int) {o : Int} (t : Tk) {l : List Tk} (h : l ≠ []) (ho : o < 64) : (rd a o (t :: l)).enter = rd a (o + 1) l := by
  unfold Rd.enter Rd.deep
  rw [if_neg (by show ¬ 64 ≤ o; omega)]
  exact rd_take a (o + 1) t h
theorem rd_enter_deep (a : Int) {o : Int} (t : Tk) (l : List Tk) (ho : 64 ≤ o) : (rd a o (t :: l)).enter.code = 41 ∧ (rd a o (t :: l)).enter.at_ = t.pl := by
  unfold Rd.enter Rd.deep
  rw [if_pos (by show 64 ≤ o; omega)]
  have e : (rd a o (t :: l)).fail 41 = ⟨41, t.pl, t :: l, o⟩ := rfl
  rw [e]
  unfold Rd.take
  rw [if_neg (fun e => absurd e.1 (by show ¬ (41 : Int) = 0; decide))]
  exact ⟨rfl, rfl⟩
theorem rd_leave (a o : Int) (l : List Tk) : (rd a (o + 1) l).leave = rd a o l := by
  unfold Rd.leave Rd.more
  show Rd.mk 0 a l (o + 1 + -1) = _
  rw [Int.add_neg_cancel_right]
theorem rd_must (a o : Int) {t : Tk} {l : List Tk} {s : Str} (h : l ≠ []) (hs : t.sg s) : (rd a o (t :: l)).must s = rd a o l := by
  unfold Rd.must
  rw [if_pos ((rd_is a o t l s).2 hs), rd_take a o t h]
theorem rd_of (a o : Int) {t : Tk} {l : List Tk} {k : Int} (h : l ≠ []) (hk : t.kind = k) : (rd a o (t :: l)).of k = (t, rd a o l) := by
  unfold Rd.of Rd.want
  rw [rd_next, if_pos hk, rd_next, rd_take a o t h]
theorem rd_name (a o : Int) {t : Tk} {l : List Tk} {s : Str} (h : l ≠ []) (hk : t.nm s) : (rd a o (t :: l)).name = ((s, t.pl), rd a o l) := by
  unfold Rd.name
  rw [rd_of a o h hk.1, ← hk.2]
theorem rd_pair (a o : Int) {t u v : Tk} {l : List Tk} {m n : Str} (h : l ≠ []) (ht : t.nm m) (hu : u.sg [46]) (hv : v.nm n) : (rd a o (t :: u :: v :: l)).pair = ((m, n), rd a o l) := by
  unfold Rd.pair
  rw [rd_name a o (by simp) ht]
  dsimp only
  rw [rd_must a o (by simp) hu, rd_name a o h hv]
/-! ### a reader that has failed stays as it is -/
theorem bad_next {r : Rd} (h : r.code ≠ 0) : r.next = tk0 := by unfold Rd.next; rw [if_neg h]
theorem bad_is {r : Rd} (h : r.code ≠ 0) (s : Str) : ¬ r.is s = true := by unfold Rd.is; rw [bad_next h]; simp [tk0]
theorem bad_take {r : Rd} (h : r.code ≠ 0) : r.take = r := by unfold Rd.take; rw [if_neg (fun e => h e.1)]
theorem bad_fail {r : Rd} (h : r.code ≠ 0) (e : Int) : r.fail e = r := by unfold Rd.fail; rw [if_neg h]
theorem bad_must {r : Rd} (h : r.code ≠ 0) (s : Str) : r.must s = r := by unfold Rd.must; rw [if_neg (bad_is h s), bad_fail h]
theorem bad_of {r : Rd} (h : r.code ≠ 0) {k : Int} (hk : k ≠ 0) : r.of k = (tk0, r) := by
  unfold Rd.of Rd.want
  rw [bad_next h, if_neg (fun e => hk e.symm), bad_fail h, bad_take h, bad_next h]
theorem bad_name {r : Rd} (h : r.code ≠ 0) : r.name = (([], 0), r) := by unfold Rd.name; rw [bad_of h (by decide)]; rfl
theorem bad_pair {r : Rd} (h : r.code ≠ 0) : r.pair.2 = r := by unfold Rd.pair; rw [bad_name h]; dsimp only; rw [bad_must h, bad_name h]
theorem bad_oper {r : Rd} (h : r.code ≠ 0) : ∀ l : List (Str × Int), r.oper l = ((0, false), r)
  | [] => rfl
  | p :: l => by rw [Rd.oper, if_neg (bad_is h _), bad_oper h l]
theorem bad_expr (f : Nat) : (∀ lv r, Rd.code r ≠ 0 → (binF f lv r).2 = r) ∧ (∀ lv e r, Rd.code r ≠ 0 → (loopF f lv e r) = (e, r)) ∧ (∀ r, Rd.code r ≠ 0 → (termF f r).2 = r) := by
  induction f with
  | zero => exact ⟨fun _ _ _ => by rw [binF], fun _ _ _ _ => by rw [loopF], fun _ _ => by rw [termF]⟩
  | succ f ih =>
    obtain ⟨iB, iL, iT⟩ := ih
    refine ⟨fun lv r h => ?_, fun lv e r h => ?_, fun r h => ?_⟩
    · rw [binF]
      split
      · exact iT r h
      · rw [if_neg (fun e => bad_is h _ e.2)]
        rw [iB _ _ h, iL _ _ _ h]
    · rw [loopF, bad_oper h]; rfl
    · rw [termF, bad_next h]
      rw [if_neg (by decide), if_neg (by decide), if_neg (bad_is h _), if_neg (bad_is h _), if_neg (bad_is h _), if_neg (bad_is h _), bad_fail h]
theorem bad_bin {r : Rd} (h : r.code ≠ 0) (lv : Nat) : (r.bin lv).2 = r := (bad_expr _).1 lv r h
theorem bad_loop {r : Rd} (h : r.code ≠ 0) (lv : Nat) (e : Ex) : r.loop lv e = (e, r) := (bad_expr _).2.1 lv e r h
theorem bad_term {r : Rd} (h : r.code ≠ 0) : r.term.2 = r := (bad_expr _).2.2 r h
/-! ### expressions but for places -/
mutual
def Ex.er : Ex → Ex
  | ⟨op, mon, name, n, kids, _⟩ => ⟨op, mon, name, n, Ex.ers kids, 0⟩
def Ex.ers : List Ex → List Ex
  | [] => []
  | x :: l => x.er :: Ex.ers l
end
theorem Ex.ers_map : ∀ l : List Ex, Ex.ers l = l.map Ex.er
  | [] => by simp [Ex.ers]
  | x :: l => by rw [Ex.ers, Ex.ers_map l]; rfl
theorem Ex.er_eq (x : Ex) : x.er = ⟨x.op, x.mon, x.name, x.n, x.kids.map Ex.er, 0⟩ := by
  cases x; rw [Ex.er, Ex.ers_map]
theorem er_mk {op : Int} {mon name : Str} {n pl pl' : Int} {k k' : List Ex} (h : k.map Ex.er = k'.map Ex.er) : (Ex.mk op mon name n k pl).er = (Ex.mk op mon name n k' pl').er := by
  rw [Ex.er_eq, Ex.er_eq]; dsimp only; rw [h]
/-! ### derivations -/
/-- The kinds with two parts: its level, its sign, the levels of its parts. -/
def rules : List (Int × Nat × Str × Nat × Nat) :=
  [(17, 1, [124, 124], 1, 2), (16, 2, [38, 38], 2, 3), (10, 4, [61, 61], 5, 5), (11, 4, [33, 61], 5, 5), (12, 4, [60], 5, 5), (13, 4, [60, 61], 5, 5), (14, 4, [62], 5, 5), (15, 4, [62, 61], 5, 5), (8, 5, [43], 5, 6), (9, 5, [45], 5, 6)]
inductive DE : Nat → List Tk → Ex → Nat → Prop
  | par {L : Nat} {t u : Tk} {ts : List Tk} {e : Ex} {d : Nat} (ht : t.sg [40]) (h : DE 1 ts e d) (hu : u.sg [41]) : DE L (t :: (ts ++ [u])) e (d + 1)
  | num {L : Nat} {t : Tk} {n pl : Int} (ht : t.nu n) : DE L [t] ⟨1, [], [], n, [], pl⟩ 0
  | tru {L : Nat} {t : Tk} {pl : Int} (ht : t.sg [116, 114, 117, 101]) : DE L [t] ⟨2, [], [], 0, [], pl⟩ 0
  | fls {L : Nat} {t : Tk} {pl : Int} (ht : t.sg [102, 97, 108, 115, 101]) : DE L [t] ⟨3, [], [], 0, [], pl⟩ 0
  | var {L : Nat} {t u v : Tk} {m n : Str} {pl : Int} (ht : t.nm m) (hu : u.sg [46]) (hv : v.nm n) : DE L [t, u, v] ⟨4, m, n, 0, [], pl⟩ 0
  | neg {L : Nat} {t : Tk} {ts : List Tk} {e : Ex} {d : Nat} {pl : Int} (ht : t.sg [45]) (h : DE 6 ts e d) : DE L (t :: ts) ⟨6, [], [], 0, [e], pl⟩ (d + 1)
  | mul {L : Nat} {t u : Tk} {ts : List Tk} {n : Int} {e : Ex} {d : Nat} {pl : Int} (ht : t.nu n) (hu : u.sg [42]) (h : DE 6 ts e d) : DE L (t :: u :: ts) ⟨7, [], [], n, [e], pl⟩ (d + 1)
  | not {L : Nat} {t : Tk} {ts : List Tk} {e : Ex} {d : Nat} {pl : Int} (hL : L ≤ 3) (ht : t.sg [33]) (h : DE 3 ts e d) : DE L (t :: ts) ⟨5, [], [], 0, [e], pl⟩ (d + 1)
  | bin {L : Nat} {op : Int} {rl l r : Nat} {s : Str} {t : Tk} {ts us : List Tk} {e f : Ex} {d g : Nat} {pl : Int} (hr : (op, rl, s, l, r) ∈ rules) (hL : L ≤ rl) (h1 : DE l ts e d) (ht : t.sg s) (h2 : DE r us f g) : DE L (ts ++ t :: us) ⟨op, [], [], 0, [e, f], pl⟩ (max d g)
/-- The parser's level. -/
def lvOf : Nat → Nat
  | 0 => 0
  | 1 => 0
  | 2 => 1
  | 3 => 2
  | 4 => 2
  | 5 => 3
  | _ => 4
def lvS : Nat → List Str
  | 0 => [[124, 124]]
  | 1 => [[38, 38]]
  | 2 => [[61, 61], [33, 61], [60], [60, 61], [62], [62, 61]]
  | 3 => [[43], [45]]
  | 4 => [[42]]
  | _ => []
/-- No operator of a level or of a tighter one is next. -/
def nop (p : Nat) (l : List Tk) : Prop := ∀ q, p ≤ q → ∀ s ∈ lvS q, ∀ t ∈ l.head?, ¬ t.sg s
theorem nop.up {p q : Nat} {l : List Tk} (h : nop p l) (hpq : p ≤ q) : nop q l := fun k hk => h k (Nat.le_trans hpq hk)
theorem lvl_signs : ∀ q : Nat, q ≤ 3 → (lvl q).map Prod.fst = lvS q
  | 0, _ => rfl
  | 1, _ => rfl
  | 2, _ => rfl
  | 3, _ => rfl
  | n + 4, h => by omega
theorem oper_none {r : Rd} : ∀ {l : List (Str × Int)}, (∀ s ∈ l.map Prod.fst, ¬ r.is s = true) → r.oper l = ((0, false), r)
  | [], _ => rfl
  | p :: l, h => by rw [Rd.oper, if_neg (h p.1 (by simp)), oper_none (fun s hs => h s (by simp at hs ⊢; exact .inr hs))]
theorem nop_oper {p q : Nat} {a o : Int} {l : List Tk} (hl : l ≠ []) (h : nop p l) (hpq : p ≤ q) (hq : q ≤ 3) : (rd a o l).oper (lvl q) = ((0, false), rd a o l) := by
  refine oper_none fun s hs hi => ?_
  rw [lvl_signs q hq] at hs
  cases l with
  | nil => exact hl rfl
  | cons t l => exact h q hpq s hs t rfl ((rd_is a o t l s).1 hi)
theorem nop_loop {p : Nat} {a o : Int} {l : List Tk} (hl : Tl l) (h0 : 0 ≤ o) (h1 : o ≤ 64) (h : nop p l) (hp : p ≤ 3) (e : Ex) : (rd a o l).loop p e = (e, rd a o l) := by
  have hn : l ≠ [] := by obtain ⟨k, t, e, _⟩ := hl.last; rw [e]; simp
  rw [Rd.loop_eq (hl.ok h0 h1) hp, nop_oper hn h (Nat.le_refl _) hp, if_neg (by simp)]
/-- What is to be shown of the parser at a level. -/
def GoesTo (p : Nat) (r : Rd) (rest : List Tk) (e : Ex) (r' : Rd) : Prop := (p ≠ 2 → p ≤ 3 → nop (p + 1) rest → r.bin p = r'.loop p e) ∧ (p = 2 ∨ p = 4 → nop p rest → r.bin p = (e, r'))
theorem GoesTo.val {p : Nat} {r : Rd} {rest : List Tk} {e : Ex} {a o : Int} (h : GoesTo p r rest e (rd a o rest)) (hl : Tl rest) (h0 : 0 ≤ o) (h1 : o ≤ 64) (hp : p ≤ 4) (hn : nop p rest) : r.bin p = (e, rd a o rest) := by
  by_cases h2 : p = 2 ∨ p = 4
  · exact h.2 h2 hn
  · rw [h.1 (by omega) (by omega) (hn.up (by omega))]
    exact nop_loop hl h0 h1 hn (by omega) e
theorem GoesTo.lift {p : Nat} {r : Rd} (hr : r.ok) {rest : List Tk} {e : Ex} {a o : Int} (h : GoesTo (p + 1) r rest e (rd a o rest)) (hl : Tl rest) (h0 : 0 ≤ o) (h1 : o ≤ 64) (hp : p ≤ 3) (hi : p = 2 → ¬ r.is [33] = true) : GoesTo p r rest e (rd a o rest) := by
  have hb := fun hn : nop (p + 1) rest => h.val hl h0 h1 (by omega) hn
  have he := Rd.bin_eq hr hp (fun e => hi e.1 e.2)
  refine ⟨fun _ _ hn => by rw [he, hb hn], fun h2 hn => ?_⟩
  rw [he, hb (hn.up (by omega))]
  exact nop_loop hl h0 h1 hn hp e
theorem GoesTo.down {q : Nat} {r : Rd} (hr : r.ok) {rest : List Tk} {e : Ex} {a o : Int} (hl : Tl rest) (h0 : 0 ≤ o) (h1 : o ≤ 64) (hi : 3 ≤ q → ¬ r.is [33] = true) : ∀ (k p : Nat), p + k = q → q ≤ 4 → GoesTo q r rest e (rd a o rest) → GoesTo p r rest e (rd a o rest)
  | 0, p, hpk, hq, h => by have : p = q := by omega
                           rw [this]; exact h
  | k + 1, p, hpk, hq, h => by
    have := GoesTo.down hr hl h0 h1 hi k (p + 1) (by omega) hq h
    exact this.lift hr hl h0 h1 (by omega) (fun e => hi (by omega))
/-- It is too deep, and is told so. -/
def Bad (r : Rd) (ts : List Tk) (o : Int) : Prop := r.code = 41 ∧ ∃ (j : Nat) (t : Tk), ts[j]? = some t ∧ r.at_ = t.pl ∧ 64 - o ≤ j
theorem Bad.code {r : Rd} {ts : List Tk} {o : Int} (h : Bad r ts o) : r.code ≠ 0 := by rw [h.1]; decide
theorem Bad.app {r : Rd} {ts : List Tk} {o : Int} (h : Bad r ts o) (us : List Tk) : Bad r (ts ++ us) o := by
  obtain ⟨h1, j, t, h2, h3, h4⟩ := h
  refine ⟨h1, j, t, ?_, h3, h4⟩
  rw [List.getElem?_append_left]
  · exact h2
  · exact (List.getElem?_eq_some_iff.1 h2).1
theorem Bad.pre {r : Rd} {ts : List Tk} {o : Int} (h : Bad r ts o) (us : List Tk) : Bad r (us ++ ts) o := by
  obtain ⟨h1, j, t, h2, h3, h4⟩ := h
  refine ⟨h1, us.length + j, t, ?_, h3, by omega⟩
  rw [List.getElem?_append_right (by omega), Nat.add_sub_cancel_left]; exact h2
theorem Bad.cons {r : Rd} {ts : List Tk} {o : Int} (h : Bad r ts (o + 1)) (t : Tk) : Bad r (t :: ts) o := by
  obtain ⟨h1, j, u, h2, h3, h4⟩ := h
  exact ⟨h1, j + 1, u, h2, h3, by omega⟩
theorem Bad.leave {r : Rd} {ts : List Tk} {o : Int} (h : Bad r ts o) : Bad r.leave ts o := h
theorem Bad.lift {p : Nat} {r : Rd} (hr : r.ok) {ts : List Tk} {o : Int} (h : Bad (r.bin (p + 1)).2 ts o) (hp : p ≤ 3) (hi : p = 2 → ¬ r.is [33] = true) : Bad (r.bin p).2 ts o := by
  rw [Rd.bin_eq hr hp (fun e => hi e.1 e.2), bad_loop h.code]; exact h
theorem Bad.down {q : Nat} {r : Rd} (hr : r.ok) {ts : List Tk} {o : Int} (hi : 3 ≤ q → ¬ r.is [33] = true) : ∀ (k p : Nat), p + k = q → q ≤ 4 → Bad (r.bin q).2 ts o → Bad (r.bin p).2 ts o
  | 0, p, hpk, hq, h => by have : p = q := by omega
                           rw [this]; exact h
  | k + 1, p, hpk, hq, h => by
    have := Bad.down hr hi k (p + 1) (by omega) hq h
    exact this.lift hr (by omega) (fun e => hi (by omega))
theorem lvOf_le (L : Nat) : lvOf L ≤ 4 := by
  unfold lvOf; split <;> omega
theorem DE.head {L : Nat} {ts : List Tk} {e : Ex} {d : Nat} (h : DE L ts e d) : ∃ t us, ts = t :: us ∧ (4 ≤ L → ¬ t.sg [33]) := by
  have ne : ∀ {t : Tk} {s : Str}, t.sg s → s ≠ [33] → ¬ t.sg [33] := fun h1 h2 h3 => h2 (h1.2.symm.trans h3.2)
  induction h with
  | par ht _ _ _ => exact ⟨_, _, rfl, fun _ => ne ht (by decide)⟩
  | num ht => exact ⟨_, _, rfl, fun _ h => by have := ht.1; have := h.1; omega⟩
  | tru ht => exact ⟨_, _, rfl, fun _ => ne ht (by decide)⟩
  | fls ht => exact ⟨_, _, rfl, fun _ => ne ht (by decide)⟩
  | var ht _ _ => exact ⟨_, _, rfl, fun _ h => by have := ht.1; have := h.1; omega⟩
  | neg ht _ _ => exact ⟨_, _, rfl, fun _ => ne ht (by decide)⟩
  | mul ht _ _ _ => exact ⟨_, _, rfl, fun _ h => by have := ht.1; have := h.1; omega⟩
  | not hL _ _ _ => exact ⟨_, _, rfl, fun h => by omega⟩
  | bin hr hL h1 ht h2 i1 i2 =>
    obtain ⟨t, us, e, h⟩ := i1
    refine ⟨t, _, by rw [e]; rfl, fun h4 => h ?_⟩
    simp only [rules, List.mem_cons, Prod.mk.injEq, List.not_mem_nil, or_false] at hr
    rcases hr with h | h | h | h | h | h | h | h | h | h <;> omega
theorem DE.mono {L : Nat} {ts : List Tk} {e : Ex} {d : Nat} (h : DE L ts e d) {K : Nat} (hk : K ≤ L) : DE K ts e d := by
  cases h with
  | par ht h hu => exact .par ht h hu
  | num ht => exact .num ht
  | tru ht => exact .tru ht
  | fls ht => exact .fls ht
  | var ht hu hv => exact .var ht hu hv
  | neg ht h => exact .neg ht h
  | mul ht hu h => exact .mul ht hu h
  | not hL ht h => exact .not (by omega) ht h
  | bin hr hL h1 ht h2 => exact .bin hr (by omega) h1 ht h2
theorem GoesTo.atom {r : Rd} {rest : List Tk} {e : Ex} {r' : Rd} (h : nop 4 rest → r.bin 4 = (e, r')) : GoesTo 4 r rest e r' := ⟨fun _ h3 => by omega, fun _ => h⟩
theorem lvOf_if : ∀ L : Nat, lvOf L = if L ≤ 1 then 0 else if L = 2 then 1 else if L ≤ 4 then 2 else if L = 5 then 3 else 4
  | 0 => rfl
  | 1 => rfl
  | 2 => rfl
  | 3 => rfl
  | 4 => rfl
  | 5 => rfl
  | n + 6 => by rw [if_neg (by omega), if_neg (by omega), if_neg (by omega), if_neg (by omega)]; rfl
theorem lvOf_mono {L K : Nat} (h : L ≤ K) : lvOf L ≤ lvOf K := by
  rw [lvOf_if L, lvOf_if K]
  split <;> split <;> (try split) <;> (try split) <;> (try split) <;> (try split) <;> (try split) <;> (try split) <;> omega
/-- The sign of an operator. -/
theorem rule_is {op : Int} {rl l r : Nat} {s : Str} (h : (op, rl, s, l, r) ∈ rules) : lvOf rl ≤ 3 ∧ lvOf r = lvOf rl + 1 ∧ (lvOf rl ≠ 2 → lvOf l = lvOf rl ∧ (lvls.getD (lvOf rl) ([], false)).2 = false) ∧ (lvOf rl = 2 → lvOf l = 3 ∧ 4 ≤ l ∧ (lvls.getD (lvOf rl) ([], false)).2 = true) ∧
    (∀ L, L ≤ rl → lvOf L ≤ lvOf rl) ∧ (3 ≤ lvOf rl → 4 ≤ l) ∧
    (∀ (a o : Int) (t : Tk) (k : List Tk), t.sg s → k ≠ [] → nop (lvOf rl + 1) (t :: k) ∧ (rd a o (t :: k)).oper (lvl (lvOf rl)) = ((op, true), rd a o k)) := by
  have mono : ∀ L, L ≤ rl → lvOf L ≤ lvOf rl := fun L hL => lvOf_mono hL
  simp only [rules, List.mem_cons, Prod.mk.injEq, List.not_mem_nil, or_false] at h
  rcases h with h | h | h | h | h | h | h | h | h | h
  all_goals
    obtain ⟨rfl, rfl, rfl, rfl, rfl⟩ := h
    refine ⟨by decide, by decide, by decide, by decide, mono, by decide, fun a o t k ht hk => ⟨fun q hq s hs u hu hsg => ?_, ?_⟩⟩
    · injection hu with hu
      subst hu
      have e := ht.2.symm.trans hsg.2
      subst e
      have hq4 : q ≤ 4 := by
        rcases Nat.lt_or_ge 4 q with h5 | h5
        · exfalso
          match q, h5 with
          | n + 5, _ => exact absurd hs (by simp [lvS])
        · exact h5
      have hq' : q = 1 ∨ q = 2 ∨ q = 3 ∨ q = 4 := by
        have : 1 ≤ q := by simp only [lvOf] at hq; omega
        omega
      rcases hq' with rfl | rfl | rfl | rfl <;> first | (exact absurd hs (by decide)) | (exact absurd hq (by decide))
    · have hi : ∀ s' : Str, (rd a o (t :: k)).is s' = true ↔ s' = t.text := fun s' => by
        rw [rd_is]
        exact ⟨fun h => h.2.symm, fun h => ⟨ht.1, h.symm⟩⟩
      have htk := rd_take a o t hk
      have he := ht.2
      simp only [lvOf, lvl, lvls, List.getD_cons_zero, List.getD_cons_succ]
      simp only [Rd.oper, hi, he]
      simp [htk]
end Go.Proofs.YtmflfcbebeikcaaGreat.Q

namespace Go.Proofs.YtmflfcbebeikcaaGreat.Q
open Go.RowKit
variable [Amb]
/-- A statement that is being made. -/
abbrev sB (k : Int) (mon : Str) (e : Ex) (B : V) (pl : Int) : List V := [iv k, sv' mon, sv' [], iv 0, iv e.op, sv' e.mon, sv' e.name, iv e.n, .d (.sl (e.kids.map Ex.e)), iv e.pl, B, iv pl]
abbrev sN (k : Int) (mon : Str) (B : V) (pl : Int) : List V := [iv k, sv' mon, sv' [], iv 0, iv 0, sv' [], sv' [], iv 0, .fsl [], iv 0, B, iv pl]
theorem comp4_c (f : Nat) (ihB : BlockC f) (pl : Int) (r : Rd) (h : r.ok) (hf : 8 * r.m + 5 ≤ f + 1) :
    PFun Tryz.prog 128 [.ptr 0 0, .ptr 1 0] [r.b, .box (sN 4 [] (.fsl []) pl)] (.tup []) [(compF (f + 1) 4 pl r).2.b, .box (sB 4 [] r.expr.1 (.fsl [blk (blockF f r.expr.2).1]) pl)] := by
  have he := h.expr
  have hb := ihB r.expr.2 he.ok (by have := he.m; omega)
  rw [compF, if_neg (by decide), if_neg (by decide)]
  rw [show r.head 4 = (([], r.expr.1), r.expr.2) from rfl]
  refine fn_sem pok 81 2 Tryz.func128 (by kernel_rfl) rfl rfl rfl rfl ?_
  refine SWp.go pok (by kernel_rfl) ?_
  refine PFun.call (expr_c r h) ?_
  refine PFun.call hb ?_
  refine SWp.loop (fun _ : Unit => True) (fun _ => ([(0, .ptr 0 0), (1, .ptr 1 0)], [(blockF f r.expr.2).2.b, .box (sB 4 [] r.expr.1 (.fsl [blk (blockF f r.expr.2).1]) pl)])) (fun _ => 0) () trivial (Le.same ⟨rfl, rfl, trivial⟩) (fun _ _ => ?_)
  refine SWp.go pok (by kernel_rfl) ?_
  exact ⟨rfl, rfl⟩
theorem comp5_c (f : Nat) (ihB : BlockC f) (pl : Int) (r : Rd) (h : r.ok) (hf : 8 * r.m + 5 ≤ f + 1) :
    PFun Tryz.prog 128 [.ptr 0 0, .ptr 1 0] [r.b, .box (sN 5 [] (.fsl []) pl)] (.tup []) [(compF (f + 1) 5 pl r).2.b, .box (sN 5 [] (.fsl [blk (blockF f r).1]) pl)] := by
  have hb := ihB r h (by omega)
  rw [compF, if_neg (by decide), if_neg (by decide)]
  rw [show r.head 5 = (([], ex0), r) from rfl]
  refine fn_sem pok 81 2 Tryz.func128 (by kernel_rfl) rfl rfl rfl rfl ?_
  refine SWp.go pok (by kernel_rfl) ?_
  refine PFun.call hb ?_
  refine SWp.loop (fun _ : Unit => True) (fun _ => ([(0, .ptr 0 0), (1, .ptr 1 0)], [(blockF f r).2.b, .box (sN 5 [] (.fsl [blk (blockF f r).1]) pl)])) (fun _ => 0) () trivial (Le.same ⟨rfl, rfl, trivial⟩) (fun _ _ => ?_)
  refine SWp.go pok (by kernel_rfl) ?_
  exact ⟨rfl, rfl⟩
theorem comp7_c (f : Nat) (ihB : BlockC f) (pl : Int) (r : Rd) (h : r.ok) (hf : 8 * r.m + 5 ≤ f + 1) :
    PFun Tryz.prog 128 [.ptr 0 0, .ptr 1 0] [r.b, .box (sN 7 [] (.fsl []) pl)] (.tup []) [(compF (f + 1) 7 pl r).2.b, .box (sN 7 r.name.1.1 (.fsl [blk (blockF f r.name.2).1]) pl)] := by
  have he := h.name
  have hb := ihB r.name.2 he.ok (by have := he.m; omega)
  rw [compF, if_neg (by decide), if_neg (by decide)]
  rw [show r.head 7 = ((r.name.1.1, ex0), r.name.2) from rfl]
  refine fn_sem pok 81 2 Tryz.func128 (by kernel_rfl) rfl rfl rfl rfl ?_
  refine SWp.go pok (by kernel_rfl) ?_
  refine PFun.call (name_c r h) ?_
  refine PFun.call hb ?_
  refine SWp.loop (fun _ : Unit => True) (fun _ => ([(0, .ptr 0 0), (1, .ptr 1 0)], [(blockF f r.name.2).2.b, .box (sN 7 r.name.1.1 (.fsl [blk (blockF f r.name.2).1]) pl)])) (fun _ => 0) () trivial (Le.same ⟨rfl, rfl, trivial⟩) (fun _ _ => ?_)
  refine SWp.go pok (by kernel_rfl) ?_
  exact ⟨rfl, rfl⟩
theorem comp3_c (f : Nat) (ihB : BlockC f) (pl : Int) (r : Rd) (h : r.ok) (hf : 8 * r.m + 5 ≤ f + 1) :
    PCalls Tryz.prog 128 [.ptr 0 0, .ptr 1 0] [r.b, .box (sN 3 [] (.fsl []) pl)] (fun res h' => res = .tup [] ∧ ∃ B hs, h' = [(compF (f + 1) 3 pl r).2.b, .box (sB 3 [] r.expr.1 B pl)] ++ hs ∧
      ((B = .fsl ((compF (f + 1) 3 pl r).1.blocks.map blk) ∧ hs = []) ∨ (B = .gsl ((compF (f + 1) 3 pl r).1.blocks.map blk) 2 ∧ hs = [.tip 1 2]))) := by
  have he := h.expr
  have hb := ihB r.expr.2 he.ok (by have := he.m; omega)
  have hbt := (stmt_to f).2.2.2.1 r.expr.2 he.ok
  rw [compF, if_pos rfl]
  rw [show r.head 3 = (([], r.expr.1), r.expr.2) from rfl]
  dsimp only
  generalize blockF f r.expr.2 = q at hb hbt ⊢
  obtain ⟨b1, r1⟩ := q
  dsimp only at hb hbt ⊢
  refine fn_sem pok 81 2 Tryz.func128 (by kernel_rfl) rfl rfl rfl rfl ?_
  refine SWp.go pok (by kernel_rfl) ?_
  refine PFun.call (expr_c r h) ?_
  refine PFun.call hb ?_
  refine PFun.call (may_c r1 [101, 108, 115, 101] hbt.ok) ?_
  unfold Rd.may
  by_cases hi : r1.is [101, 108, 115, 101] = true
  · rw [if_pos hi, if_pos hi]
    have hk := hbt.ok.take
    have hb2 := ihB r1.take hk.ok (by have := hk.m; have := hbt.m; have := he.m; omega)
    generalize blockF f r1.take = q2 at hb2 ⊢
    obtain ⟨b2, r2⟩ := q2
    dsimp only at hb2 ⊢
    refine ⟨_, _, hb2, ?_⟩
    refine ⟨⟨fun r hr => by simp at hr; subst hr; rfl, fun r hr => by simp at hr; subst hr; rfl, by simp⟩, ?_⟩
    refine SWp.loop (fun _ : Unit => True) (fun _ => ([(0, .ptr 0 0), (1, .ptr 1 0)], [r2.b, .box (sB 3 [] r.expr.1 (.gsl [blk b1, blk b2] 2) pl), .tip 1 2])) (fun _ => 0) () trivial (Le.same ⟨rfl, rfl, trivial⟩) (fun _ _ => ?_)
    refine SWp.go pok (by kernel_rfl) ?_
    exact ⟨rfl, _, _, rfl, .inr ⟨rfl, rfl⟩⟩
  · rw [if_neg hi, if_neg hi]
    refine SWp.loop (fun _ : Unit => True) (fun _ => ([(0, .ptr 0 0), (1, .ptr 1 0)], [r1.b, .box (sB 3 [] r.expr.1 (.fsl [blk b1]) pl)])) (fun _ => 0) () trivial (Le.same ⟨rfl, rfl, trivial⟩) (fun _ _ => ?_)
    refine SWp.go pok (by kernel_rfl) ?_
    exact ⟨rfl, _, _, rfl, .inl ⟨rfl, rfl⟩⟩
theorem RL_blk (l : List (List St)) : RL (l.map blk) 1 := fun r hr => by obtain ⟨t, _, rfl⟩ := List.mem_map.1 hr; rfl
theorem comp6_c (f : Nat) (ihB : ∀ g ≤ f, BlockC g) (pl : Int) (r : Rd) (h : r.ok) (hf : 8 * r.m + 5 ≤ f + 1) :
    PFun Tryz.prog 128 [.ptr 0 0, .ptr 1 0] [r.b, .box (sN 6 [] (.fsl []) pl)] (.tup []) [(compF (f + 1) 6 pl r).2.b, .box (sN 6 [] (.gsl ((compF (f + 1) 6 pl r).1.blocks.map blk) 2) pl), .tip 1 (compF (f + 1) 6 pl r).1.blocks.length] := by
  have hb := ihB f (Nat.le_refl _) r h (by omega)
  have hbt := (stmt_to f).2.2.2.1 r h
  rw [compF, if_neg (by decide), if_pos rfl]
  rw [show r.head 6 = (([], ex0), r) from rfl]
  dsimp only
  generalize blockF f r = q at hb hbt ⊢
  obtain ⟨b1, r1⟩ := q
  dsimp only at hb hbt ⊢
  refine fn_sem pok 81 2 Tryz.func128 (by kernel_rfl) rfl rfl rfl rfl ?_
  refine SWp.go pok (by kernel_rfl) ?_
  refine PFun.call hb ?_
  refine SWp.tipBox 1 10 1 rfl rfl ?_
  refine SWp.loop (fun q : Nat × List (List St) × List (List D) × Rd => q.1 ≤ f ∧ q.2.2.1 = q.2.1.map blk ∧ q.2.2.2.ok ∧ 8 * q.2.2.2.m + 4 ≤ q.1 ∧ q.2.1.length + q.2.2.2.m ≤ r.m + 1 ∧ orF q.1 q.2.1 q.2.2.2 = orF f [b1] r1)
    (fun q => ([(0, .ptr 0 0), (1, .ptr 1 0)], [q.2.2.2.b, .box (sN 6 [] (.gsl q.2.2.1 2) pl), .tip 1 q.2.1.length])) (fun q => q.2.2.2.m) (f, [b1], [blk b1], r1) ⟨Nat.le_refl _, rfl, hbt.ok, by have := hbt.m; dsimp only; omega, by have := hbt.m; dsimp only [List.length]; omega, rfl⟩ (Le.same ⟨rfl, rfl, trivial⟩) (fun q hq => ?_)
  obtain ⟨f1, l, rows, r2⟩ := q
  obtain ⟨hle, hrw, hok, hfu, hln, he⟩ := hq
  dsimp only at hle hrw hok hfu hln he
  subst hrw
  have hml := r.m_len
  have hl0 := h.len
  cases f1 with
  | zero => omega
  | succ f' =>
    rw [orF] at he
    refine SWp.go pok (by kernel_rfl) ?_
    refine PFun.call (is_c r2 [111, 114] hok) ?_
    by_cases hi : r2.is [111, 114] = true
    · rw [if_pos hi] at he
      refine brP_true hi ?_
      have hr1 := hok.room (n := l.length) (most := 8)
      have hr2 := hr1.trans hr1.ok.take (c := (r2.room l.length 8).take)
      have hlt : (r2.room l.length 8).take.m < r2.m := by
        obtain ⟨d1, d2⟩ := Rd.is_not5 hi
        unfold Rd.room
        by_cases hm : (l.length : Int) ≥ 8
        · rw [if_pos hm]
          have h1 := Rd.fail_m d1 hok (e := 6) (by decide)
          have h2 := (hok.fail (e := 6) (by decide)).ok.take.m
          omega
        · rw [if_neg hm]; exact (hok.isTake hi).1
      have hbl := ihB f' (by omega) (r2.room l.length 8).take hr2.ok (by omega)
      have hbt2 := (stmt_to f').2.2.2.1 _ hr2.ok
      have hroom := room_c r2 (l.map blk).length 8 hok
      rw [List.length_map] at hroom
      refine PFun.call (by rw [List.length_map]; exact hroom) ?_
      refine PFun.call (take_c _ hr1.ok) ?_
      refine ⟨_, _, hbl, ?_⟩
      generalize blockF f' (r2.room l.length 8).take = q2 at he hbt2 ⊢
      obtain ⟨b2, r3⟩ := q2
      dsimp only at he hbt2 ⊢
      refine ⟨⟨by simp, RL_blk l, fun r hr => by simp at hr; subst hr; rfl, by simp; omega⟩, ?_⟩
      refine ⟨(f', l ++ [b2], (l ++ [b2]).map blk, r3), ⟨by omega, rfl, hbt2.ok, by have := hbt2.m; dsimp only; omega, by have := hbt2.m; dsimp only; rw [List.length_append, List.length_singleton]; omega, he⟩, by have := hbt2.m; dsimp only; omega, .inr ⟨[0, 1, 2], ⟨rfl, rfl⟩, ?_, rfl, rfl, trivial⟩⟩
      simp only [List.map_append, List.map_cons, List.map_nil, List.length_append, List.length_map]
      rfl
    · rw [if_neg hi] at he
      refine brP_false (by simpa using hi) ?_
      rw [← he]
      exact ⟨rfl, rfl⟩
end Go.Proofs.YtmflfcbebeikcaaGreat.Q

namespace Go.Proofs.YtmflfcbebeikcaaGreat.Q
open Go.RowKit
variable [Amb]
theorem aggk {a b : Int} (h : a = b) (l : List V) : V.agg (iv a :: l) = V.agg (iv b :: l) := by rw [h]
theorem kq {s : Str} {a b : Int} {c : Bool} (h : kindOf s = a) (e : (a == b) = c) : (kindOf s == b) = c := by rw [h]; exact e
theorem comp3_form (f : Nat) (pl : Int) (r : Rd) : (compF (f + 1) 3 pl r).1 = ⟨3, [], [], 0, r.expr.1, (compF (f + 1) 3 pl r).1.blocks, pl⟩ := by
  rw [compF, if_pos rfl, show r.head 3 = (([], r.expr.1), r.expr.2) from rfl]
  split <;> rfl
theorem comp6_form (f : Nat) (pl : Int) (r : Rd) : (compF (f + 1) 6 pl r).1 = ⟨6, [], [], 0, ex0, (compF (f + 1) 6 pl r).1.blocks, pl⟩ := by
  rw [compF, if_neg (by decide), if_pos rfl, show r.head 6 = (([], ex0), r) from rfl]
theorem comp4_form (f : Nat) (pl : Int) (r : Rd) : (compF (f + 1) 4 pl r).1 = ⟨4, [], [], 0, r.expr.1, [(blockF f r.expr.2).1], pl⟩ := by
  rw [compF, if_neg (by decide), if_neg (by decide), show r.head 4 = (([], r.expr.1), r.expr.2) from rfl]
theorem comp5_form (f : Nat) (pl : Int) (r : Rd) : (compF (f + 1) 5 pl r).1 = ⟨5, [], [], 0, ex0, [(blockF f r).1], pl⟩ := by
  rw [compF, if_neg (by decide), if_neg (by decide), show r.head 5 = (([], ex0), r) from rfl]
theorem comp7_form (f : Nat) (pl : Int) (r : Rd) : (compF (f + 1) 7 pl r).1 = ⟨7, r.name.1.1, [], 0, ex0, [(blockF f r.name.2).1], pl⟩ := by
  rw [compF, if_neg (by decide), if_neg (by decide), show r.head 7 = ((r.name.1.1, ex0), r.name.2) from rfl]

theorem stmtK3_c (f : Nat) (ihB : ∀ g ≤ f, BlockC g) (r : Rd) (h : r.ok) (hf : 8 * r.m + 1 ≤ f + 1) (h3 : r.next.kind = 3) (hk : kindOf r.next.text = 3) : PFun Tryz.prog 106 [.ptr 0 0] [r.b] (stmtF (f + 1) r).1.v [(stmtF (f + 1) r).2.b] := by
  obtain ⟨c1, c2⟩ := Rd.next_code (by decide) h3
  obtain ⟨t1, t2⟩ := h.takes c1 (by rw [c2]; decide)
  have ht := h.take
  rw [stmtF, if_neg (by omega), if_neg (by omega)]
  rw [if_pos (by omega)]
  cases f with
  | zero => omega
  | succ f =>
  have hc := comp3_c f (ihB f (by omega)) r.next.pl r.take ht.ok (by omega)
  rw [show sN 3 [] (.fsl []) r.next.pl = sN (kindOf r.next.text) [] (.fsl []) r.next.pl from by rw [hk]] at hc
  rw [hk, comp3_form]
  generalize compF (f + 1) 3 r.next.pl r.take = q at hc ⊢
  obtain ⟨x, r2⟩ := q
  dsimp only at hc ⊢
  refine fn_sem pok 103 1 Tryz.func106 (by kernel_rfl) rfl rfl rfl rfl ?_
  refine SWp.go pok (by kernel_rfl) ?_
  refine PFun.call (next_c r h) ?_
  refine ⟨_, _, kinds_c, ?_⟩
  refine .inr ?_
  refine brP_false (by simp; omega) ?_
  refine brP_false (by simp; omega) ?_
  refine brP_false (kq hk rfl) ?_
  refine PFun.call (take_c r h) ?_
  refine brP_true (kq hk rfl) ?_
  refine PCalls.mono hc ?_
  rintro res h' ⟨rfl, B, hs, rfl, hB⟩
  rcases hB with ⟨rfl, rfl⟩ | ⟨rfl, rfl⟩
  · exact ⟨rfl, rfl⟩
  · exact ⟨rfl, rfl⟩

theorem stmtK4_c (f : Nat) (ihB : ∀ g ≤ f, BlockC g) (r : Rd) (h : r.ok) (hf : 8 * r.m + 1 ≤ f + 1) (h3 : r.next.kind = 3) (hk : kindOf r.next.text = 4) : PFun Tryz.prog 106 [.ptr 0 0] [r.b] (stmtF (f + 1) r).1.v [(stmtF (f + 1) r).2.b] := by
  obtain ⟨c1, c2⟩ := Rd.next_code (by decide) h3
  obtain ⟨t1, t2⟩ := h.takes c1 (by rw [c2]; decide)
  have ht := h.take
  rw [stmtF, if_neg (by omega), if_neg (by omega)]
  rw [if_pos (by omega)]
  cases f with
  | zero => omega
  | succ f =>
  have hc := comp4_c f (ihB f (by omega)) r.next.pl r.take ht.ok (by omega)
  rw [show sN 4 [] (.fsl []) r.next.pl = sN (kindOf r.next.text) [] (.fsl []) r.next.pl from by rw [hk]] at hc
  rw [show sB 4 [] r.take.expr.1 (.fsl [blk (blockF f r.take.expr.2).1]) r.next.pl = sB (kindOf r.next.text) [] r.take.expr.1 (.fsl [blk (blockF f r.take.expr.2).1]) r.next.pl from by rw [hk]] at hc
  rw [hk, comp4_form]
  refine fn_sem pok 103 1 Tryz.func106 (by kernel_rfl) rfl rfl rfl rfl ?_
  refine SWp.go pok (by kernel_rfl) ?_
  refine PFun.call (next_c r h) ?_
  refine ⟨_, _, kinds_c, ?_⟩
  refine .inr ?_
  refine brP_false (by simp; omega) ?_
  refine brP_false (by simp; omega) ?_
  refine brP_false (kq hk rfl) ?_
  refine PFun.call (take_c r h) ?_
  refine brP_false (kq hk rfl) ?_
  refine brP_true (kq hk rfl) ?_
  refine PFun.call hc ?_
  exact ⟨aggk hk _, rfl⟩

theorem stmtK5_c (f : Nat) (ihB : ∀ g ≤ f, BlockC g) (r : Rd) (h : r.ok) (hf : 8 * r.m + 1 ≤ f + 1) (h3 : r.next.kind = 3) (hk : kindOf r.next.text = 5) : PFun Tryz.prog 106 [.ptr 0 0] [r.b] (stmtF (f + 1) r).1.v [(stmtF (f + 1) r).2.b] := by
  obtain ⟨c1, c2⟩ := Rd.next_code (by decide) h3
  obtain ⟨t1, t2⟩ := h.takes c1 (by rw [c2]; decide)
  have ht := h.take
  rw [stmtF, if_neg (by omega), if_neg (by omega)]
  rw [if_pos (by omega)]
  cases f with
  | zero => omega
  | succ f =>
  have hc := comp5_c f (ihB f (by omega)) r.next.pl r.take ht.ok (by omega)
  rw [show sN 5 [] (.fsl []) r.next.pl = sN (kindOf r.next.text) [] (.fsl []) r.next.pl from by rw [hk]] at hc
  rw [hk, comp5_form]
  refine fn_sem pok 103 1 Tryz.func106 (by kernel_rfl) rfl rfl rfl rfl ?_
  refine SWp.go pok (by kernel_rfl) ?_
  refine PFun.call (next_c r h) ?_
  refine ⟨_, _, kinds_c, ?_⟩
  refine .inr ?_
  refine brP_false (by simp; omega) ?_
  refine brP_false (by simp; omega) ?_
  refine brP_false (kq hk rfl) ?_
  refine PFun.call (take_c r h) ?_
  refine brP_false (kq hk rfl) ?_
  refine brP_false (kq hk rfl) ?_
  refine brP_true (kq hk rfl) ?_
  refine PFun.call hc ?_
  exact ⟨rfl, rfl⟩

theorem stmtK6_c (f : Nat) (ihB : ∀ g ≤ f, BlockC g) (r : Rd) (h : r.ok) (hf : 8 * r.m + 1 ≤ f + 1) (h3 : r.next.kind = 3) (hk : kindOf r.next.text = 6) : PFun Tryz.prog 106 [.ptr 0 0] [r.b] (stmtF (f + 1) r).1.v [(stmtF (f + 1) r).2.b] := by
  obtain ⟨c1, c2⟩ := Rd.next_code (by decide) h3
  obtain ⟨t1, t2⟩ := h.takes c1 (by rw [c2]; decide)
  have ht := h.take
  rw [stmtF, if_neg (by omega), if_neg (by omega)]
  rw [if_pos (by omega)]
  cases f with
  | zero => omega
  | succ f =>
  have hc := comp6_c f (fun g hg => ihB g (by omega)) r.next.pl r.take ht.ok (by omega)
  rw [show sN 6 [] (.fsl []) r.next.pl = sN (kindOf r.next.text) [] (.fsl []) r.next.pl from by rw [hk]] at hc
  rw [hk, comp6_form]
  generalize compF (f + 1) 6 r.next.pl r.take = q at hc ⊢
  obtain ⟨x, r2⟩ := q
  dsimp only at hc ⊢
  refine fn_sem pok 103 1 Tryz.func106 (by kernel_rfl) rfl rfl rfl rfl ?_
  refine SWp.go pok (by kernel_rfl) ?_
  refine PFun.call (next_c r h) ?_
  refine ⟨_, _, kinds_c, ?_⟩
  refine .inr ?_
  refine brP_false (by simp; omega) ?_
  refine brP_false (by simp; omega) ?_
  refine brP_false (kq hk rfl) ?_
  refine PFun.call (take_c r h) ?_
  refine brP_false (kq hk rfl) ?_
  refine brP_false (kq hk rfl) ?_
  refine brP_false (kq hk rfl) ?_
  refine brP_true (kq hk rfl) ?_
  refine PFun.call hc ?_
  exact ⟨rfl, rfl⟩

theorem stmtK7_c (f : Nat) (ihB : ∀ g ≤ f, BlockC g) (r : Rd) (h : r.ok) (hf : 8 * r.m + 1 ≤ f + 1) (h3 : r.next.kind = 3) (hk : kindOf r.next.text = 7) : PFun Tryz.prog 106 [.ptr 0 0] [r.b] (stmtF (f + 1) r).1.v [(stmtF (f + 1) r).2.b] := by
  obtain ⟨c1, c2⟩ := Rd.next_code (by decide) h3
  obtain ⟨t1, t2⟩ := h.takes c1 (by rw [c2]; decide)
  have ht := h.take
  rw [stmtF, if_neg (by omega), if_neg (by omega)]
  rw [if_pos (by omega)]
  cases f with
  | zero => omega
  | succ f =>
  have hc := comp7_c f (ihB f (by omega)) r.next.pl r.take ht.ok (by omega)
  rw [show sN 7 [] (.fsl []) r.next.pl = sN (kindOf r.next.text) [] (.fsl []) r.next.pl from by rw [hk]] at hc
  rw [hk, comp7_form]
  refine fn_sem pok 103 1 Tryz.func106 (by kernel_rfl) rfl rfl rfl rfl ?_
  refine SWp.go pok (by kernel_rfl) ?_
  refine PFun.call (next_c r h) ?_
  refine ⟨_, _, kinds_c, ?_⟩
  refine .inr ?_
  refine brP_false (by simp; omega) ?_
  refine brP_false (by simp; omega) ?_
  refine brP_false (kq hk rfl) ?_
  refine PFun.call (take_c r h) ?_
  refine brP_false (kq hk rfl) ?_
  refine brP_false (kq hk rfl) ?_
  refine brP_false (kq hk rfl) ?_
  refine brP_false (kq hk rfl) ?_
  refine brP_true (kq hk rfl) ?_
  refine PFun.call hc ?_
  exact ⟨rfl, rfl⟩

theorem stmtK1_c (f : Nat) (ihB : ∀ g ≤ f, BlockC g) (r : Rd) (h : r.ok) (hf : 8 * r.m + 1 ≤ f + 1) (h3 : r.next.kind = 3) (hk : kindOf r.next.text = 1) : PFun Tryz.prog 106 [.ptr 0 0] [r.b] (stmtF (f + 1) r).1.v [(stmtF (f + 1) r).2.b] := by
  obtain ⟨c1, c2⟩ := Rd.next_code (by decide) h3
  obtain ⟨t1, t2⟩ := h.takes c1 (by rw [c2]; decide)
  have ht := h.take
  rw [stmtF, if_neg (by omega), if_neg (by omega)]
  rw [if_neg (by omega)]
  rw [hk]
  show PFun _ _ _ _ (St.mk 1 [] [] 0 ex0 [] r.next.pl).v [(r.take.must [59]).b]
  refine fn_sem pok 103 1 Tryz.func106 (by kernel_rfl) rfl rfl rfl rfl ?_
  refine SWp.go pok (by kernel_rfl) ?_
  refine PFun.call (next_c r h) ?_
  refine ⟨_, _, kinds_c, ?_⟩
  refine .inr ?_
  refine brP_false (by simp; omega) ?_
  refine brP_false (by simp; omega) ?_
  refine brP_false (kq hk rfl) ?_
  refine PFun.call (take_c r h) ?_
  refine brP_false (kq hk rfl) ?_
  refine brP_false (kq hk rfl) ?_
  refine brP_false (kq hk rfl) ?_
  refine brP_false (kq hk rfl) ?_
  refine brP_false (kq hk rfl) ?_
  refine brP_false (kq hk rfl) ?_
  refine brP_false (kq hk rfl) ?_
  refine brP_false (kq hk rfl) ?_
  refine brP_false (kq hk rfl) ?_
  refine brP_false (kq hk rfl) ?_
  refine PFun.call (must_c _ [59] ht.ok) ?_
  exact ⟨aggk hk _, rfl⟩

theorem stmtK8_c (f : Nat) (ihB : ∀ g ≤ f, BlockC g) (r : Rd) (h : r.ok) (hf : 8 * r.m + 1 ≤ f + 1) (h3 : r.next.kind = 3) (hk : kindOf r.next.text = 8) : PFun Tryz.prog 106 [.ptr 0 0] [r.b] (stmtF (f + 1) r).1.v [(stmtF (f + 1) r).2.b] := by
  obtain ⟨c1, c2⟩ := Rd.next_code (by decide) h3
  obtain ⟨t1, t2⟩ := h.takes c1 (by rw [c2]; decide)
  have ht := h.take
  rw [stmtF, if_neg (by omega), if_neg (by omega)]
  rw [if_neg (by omega)]
  rw [hk]
  show PFun _ _ _ _ (St.mk 8 r.take.pair.1.1 r.take.pair.1.2 0 ex0 [] r.next.pl).v [(r.take.pair.2.must [59]).b]
  have h2 := ht.ok.pair
  refine fn_sem pok 103 1 Tryz.func106 (by kernel_rfl) rfl rfl rfl rfl ?_
  refine SWp.go pok (by kernel_rfl) ?_
  refine PFun.call (next_c r h) ?_
  refine ⟨_, _, kinds_c, ?_⟩
  refine .inr ?_
  refine brP_false (by simp; omega) ?_
  refine brP_false (by simp; omega) ?_
  refine brP_false (kq hk rfl) ?_
  refine PFun.call (take_c r h) ?_
  refine brP_false (kq hk rfl) ?_
  refine brP_false (kq hk rfl) ?_
  refine brP_false (kq hk rfl) ?_
  refine brP_false (kq hk rfl) ?_
  refine brP_false (kq hk rfl) ?_
  refine brP_true (kq hk rfl) ?_
  refine PFun.call (pair_c r.take ht.ok) ?_
  refine brP_false (kq hk rfl) ?_
  refine PFun.call (must_c _ [59] h2.ok) ?_
  exact ⟨aggk hk _, rfl⟩

theorem stmtK9_c (f : Nat) (ihB : ∀ g ≤ f, BlockC g) (r : Rd) (h : r.ok) (hf : 8 * r.m + 1 ≤ f + 1) (h3 : r.next.kind = 3) (hk : kindOf r.next.text = 9) : PFun Tryz.prog 106 [.ptr 0 0] [r.b] (stmtF (f + 1) r).1.v [(stmtF (f + 1) r).2.b] := by
  obtain ⟨c1, c2⟩ := Rd.next_code (by decide) h3
  obtain ⟨t1, t2⟩ := h.takes c1 (by rw [c2]; decide)
  have ht := h.take
  rw [stmtF, if_neg (by omega), if_neg (by omega)]
  rw [if_neg (by omega)]
  rw [hk]
  show PFun _ _ _ _ (St.mk 9 r.take.name.1.1 [] r.take.name.2.wait.1 ex0 [] r.next.pl).v [(r.take.name.2.wait.2.must [59]).b]
  have h2 := ht.ok.name
  refine fn_sem pok 103 1 Tryz.func106 (by kernel_rfl) rfl rfl rfl rfl ?_
  refine SWp.go pok (by kernel_rfl) ?_
  refine PFun.call (next_c r h) ?_
  refine ⟨_, _, kinds_c, ?_⟩
  refine .inr ?_
  refine brP_false (by simp; omega) ?_
  refine brP_false (by simp; omega) ?_
  refine brP_false (kq hk rfl) ?_
  refine PFun.call (take_c r h) ?_
  refine brP_false (kq hk rfl) ?_
  refine brP_false (kq hk rfl) ?_
  refine brP_false (kq hk rfl) ?_
  refine brP_false (kq hk rfl) ?_
  refine brP_false (kq hk rfl) ?_
  refine brP_false (kq hk rfl) ?_
  refine brP_true (kq hk rfl) ?_
  refine PFun.call (name_c r.take ht.ok) ?_
  refine brP_true (kq hk rfl) ?_
  generalize r.take.name = q at h2 ⊢
  obtain ⟨⟨nm, np⟩, r2⟩ := q
  dsimp only at h2 ⊢
  have hw := h2.ok.wait
  refine PFun.call (next_c r2 h2.ok) ?_
  unfold Rd.wait at hw ⊢
  refine brP_split (fun h5 => ?_) (fun h5 => ?_)
  · rw [if_pos (by simpa using h5)] at hw ⊢
    refine PFun.call (next_c r2 h2.ok) ?_
    refine brP_split (fun h6 => ?_) (fun h6 => ?_)
    · rw [if_pos (by simpa using h6)] at hw ⊢
      refine PFun.call (fail_c r2 40 h2.ok) ?_
      refine PFun.call (take_c _ (h2.ok.fail (by decide)).ok) ?_
      refine PFun.call (must_c _ [59] hw.ok) ?_
      exact ⟨aggk hk _, rfl⟩
    · rw [if_neg (by simpa using h6)] at hw ⊢
      refine PFun.call (take_c _ h2.ok) ?_
      refine PFun.call (must_c _ [59] hw.ok) ?_
      exact ⟨aggk hk _, rfl⟩
  · rw [if_neg (by simpa using h5)] at hw ⊢
    refine PFun.call (must_c _ [59] h2.ok) ?_
    exact ⟨aggk hk _, rfl⟩

theorem stmtK10_c (f : Nat) (ihB : ∀ g ≤ f, BlockC g) (r : Rd) (h : r.ok) (hf : 8 * r.m + 1 ≤ f + 1) (h3 : r.next.kind = 3) (hk : kindOf r.next.text = 10) : PFun Tryz.prog 106 [.ptr 0 0] [r.b] (stmtF (f + 1) r).1.v [(stmtF (f + 1) r).2.b] := by
  obtain ⟨c1, c2⟩ := Rd.next_code (by decide) h3
  obtain ⟨t1, t2⟩ := h.takes c1 (by rw [c2]; decide)
  have ht := h.take
  rw [stmtF, if_neg (by omega), if_neg (by omega)]
  rw [if_neg (by omega)]
  rw [hk]
  show PFun _ _ _ _ (St.mk 10 r.take.name.1.1 [] 0 ex0 [] r.next.pl).v [(r.take.name.2.must [59]).b]
  have h2 := ht.ok.name
  refine fn_sem pok 103 1 Tryz.func106 (by kernel_rfl) rfl rfl rfl rfl ?_
  refine SWp.go pok (by kernel_rfl) ?_
  refine PFun.call (next_c r h) ?_
  refine ⟨_, _, kinds_c, ?_⟩
  refine .inr ?_
  refine brP_false (by simp; omega) ?_
  refine brP_false (by simp; omega) ?_
  refine brP_false (kq hk rfl) ?_
  refine PFun.call (take_c r h) ?_
  refine brP_false (kq hk rfl) ?_
  refine brP_false (kq hk rfl) ?_
  refine brP_false (kq hk rfl) ?_
  refine brP_false (kq hk rfl) ?_
  refine brP_false (kq hk rfl) ?_
  refine brP_false (kq hk rfl) ?_
  refine brP_false (kq hk rfl) ?_
  refine brP_true (kq hk rfl) ?_
  refine PFun.call (name_c r.take ht.ok) ?_
  refine brP_false (kq hk rfl) ?_
  refine PFun.call (must_c _ [59] h2.ok) ?_
  exact ⟨aggk hk _, rfl⟩

theorem stmtK11_c (f : Nat) (ihB : ∀ g ≤ f, BlockC g) (r : Rd) (h : r.ok) (hf : 8 * r.m + 1 ≤ f + 1) (h3 : r.next.kind = 3) (hk : kindOf r.next.text = 11) : PFun Tryz.prog 106 [.ptr 0 0] [r.b] (stmtF (f + 1) r).1.v [(stmtF (f + 1) r).2.b] := by
  obtain ⟨c1, c2⟩ := Rd.next_code (by decide) h3
  obtain ⟨t1, t2⟩ := h.takes c1 (by rw [c2]; decide)
  have ht := h.take
  rw [stmtF, if_neg (by omega), if_neg (by omega)]
  rw [if_neg (by omega)]
  rw [hk]
  show PFun _ _ _ _ (St.mk 11 r.take.name.1.1 [] 0 ex0 [] r.next.pl).v [(r.take.name.2.must [59]).b]
  have h2 := ht.ok.name
  refine fn_sem pok 103 1 Tryz.func106 (by kernel_rfl) rfl rfl rfl rfl ?_
  refine SWp.go pok (by kernel_rfl) ?_
  refine PFun.call (next_c r h) ?_
  refine ⟨_, _, kinds_c, ?_⟩
  refine .inr ?_
  refine brP_false (by simp; omega) ?_
  refine brP_false (by simp; omega) ?_
  refine brP_false (kq hk rfl) ?_
  refine PFun.call (take_c r h) ?_
  refine brP_false (kq hk rfl) ?_
  refine brP_false (kq hk rfl) ?_
  refine brP_false (kq hk rfl) ?_
  refine brP_false (kq hk rfl) ?_
  refine brP_false (kq hk rfl) ?_
  refine brP_false (kq hk rfl) ?_
  refine brP_false (kq hk rfl) ?_
  refine brP_false (kq hk rfl) ?_
  refine brP_true (kq hk rfl) ?_
  refine PFun.call (name_c r.take ht.ok) ?_
  refine brP_false (kq hk rfl) ?_
  refine PFun.call (must_c _ [59] h2.ok) ?_
  exact ⟨aggk hk _, rfl⟩

theorem stmt_c (f : Nat) (ihB : ∀ g ≤ f, BlockC g) (r : Rd) (h : r.ok) (hf : 8 * r.m + 1 ≤ f + 1) : PFun Tryz.prog 106 [.ptr 0 0] [r.b] (stmtF (f + 1) r).1.v [(stmtF (f + 1) r).2.b] := by
  by_cases h1 : r.next.kind = 1
  · rw [stmtF, if_pos h1]
    have h2 := h.pair
    have h3 := h2.trans h2.ok.must (c := r.pair.2.must [61])
    have h4 := h3.trans h3.ok.expr
    refine fn_sem pok 103 1 Tryz.func106 (by kernel_rfl) rfl rfl rfl rfl ?_
    refine SWp.go pok (by kernel_rfl) ?_
    refine PFun.call (next_c r h) ?_
    refine ⟨_, _, kinds_c, ?_⟩
    refine .inr ?_
    refine brP_true (by simpa using h1) ?_
    refine PFun.call (pair_c r h) ?_
    refine PFun.call (must_c _ [61] h2.ok) ?_
    refine PFun.call (expr_c _ h3.ok) ?_
    refine PFun.call (must_c _ [59] h4.ok) ?_
    exact ⟨rfl, rfl⟩
  by_cases h3 : r.next.kind = 3
  · rcases kindOf_in r.next.text with hk | hk | hk | hk | hk | hk | hk | hk | hk | hk | hk
    · rw [stmtF, if_neg h1, if_pos (.inr hk)]
      refine fn_sem pok 103 1 Tryz.func106 (by kernel_rfl) rfl rfl rfl rfl ?_
      refine SWp.go pok (by kernel_rfl) ?_
      refine PFun.call (next_c r h) ?_
      refine ⟨_, _, kinds_c, ?_⟩
      refine .inr ?_
      refine brP_false (by simp; omega) ?_
      refine brP_false (by simp; omega) ?_
      refine brP_true (kq hk rfl) ?_
      refine PFun.call (fail_c r 40 h) ?_
      exact ⟨rfl, rfl⟩
    · exact stmtK1_c f ihB r h hf h3 hk
    · exact stmtK3_c f ihB r h hf h3 hk
    · exact stmtK4_c f ihB r h hf h3 hk
    · exact stmtK5_c f ihB r h hf h3 hk
    · exact stmtK6_c f ihB r h hf h3 hk
    · exact stmtK7_c f ihB r h hf h3 hk
    · exact stmtK8_c f ihB r h hf h3 hk
    · exact stmtK9_c f ihB r h hf h3 hk
    · exact stmtK10_c f ihB r h hf h3 hk
    · exact stmtK11_c f ihB r h hf h3 hk
  · rw [stmtF, if_neg h1, if_pos (.inl h3)]
    refine fn_sem pok 103 1 Tryz.func106 (by kernel_rfl) rfl rfl rfl rfl ?_
    refine SWp.go pok (by kernel_rfl) ?_
    refine PFun.call (next_c r h) ?_
    refine ⟨_, _, kinds_c, ?_⟩
    refine .inr ?_
    refine brP_false (by simp; omega) ?_
    refine brP_true (by simp; omega) ?_
    refine PFun.call (fail_c r 40 h) ?_
    exact ⟨rfl, rfl⟩
theorem stmt_w (N : Nat) : ∀ f ≤ N, StmtC f ∧ BlockC f := by
  induction N with
  | zero => exact fun f hf => ⟨fun r _ h => by omega, fun r _ h => by omega⟩
  | succ N ih =>
    intro f hf
    refine ⟨fun r h hm => ?_, fun r h hm => ?_⟩
    · cases f with
      | zero => omega
      | succ f => exact stmt_c f (fun g hg => (ih g (by omega)).2) r h hm
    · cases f with
      | zero => omega
      | succ f => cases f with
        | zero => omega
        | succ f => exact block_w f (fun g hg => (ih g (by omega)).1) r h hm
/-- A block is read. -/
def Rd.block (r : Rd) : List St × Rd := blockF (8 * r.m + 3) r
theorem block_c (r : Rd) (h : r.ok) : PFun Tryz.prog 72 [.ptr 0 0] [r.b] (.d (.sl (r.block.1.map St.c))) [r.block.2.b] :=
  (stmt_w _ _ (Nat.le_refl _)).2 r h (Nat.le_refl _)
theorem Rd.ok.block {r : Rd} (h : r.ok) : r.to r.block.2 := (stmt_to _).2.2.2.1 r h
end Go.Proofs.YtmflfcbebeikcaaGreat.Q

namespace Go.Proofs.YtmflfcbebeikcaaGreat.Q
open Go.RowKit
variable [Amb]
def Rd.whole (r : Rd) : Int × Rd := (if (r.may [45]).1 = true then IntKind.i64.wrap (0 - ((r.may [45]).2.of 2).1.n) else ((r.may [45]).2.of 2).1.n, ((r.may [45]).2.of 2).2)
theorem Rd.ok.whole {r : Rd} (h : r.ok) : r.to r.whole.2 := h.may.trans h.may.ok.of
theorem whole_c (r : Rd) (h : r.ok) : PFun Tryz.prog 104 [.ptr 0 0] [r.b] (iv r.whole.1) [r.whole.2.b] := by
  have hm := h.may (s := [45])
  refine fn_sem pok 14 1 Tryz.func104 (by kernel_rfl) rfl rfl rfl rfl ?_
  refine SWp.go pok (by kernel_rfl) ?_
  refine PFun.call (may_c r [45] h) ?_
  refine PFun.call (of_c _ 2 hm.ok) ?_
  unfold Rd.whole
  refine brP_split (fun h1 => ?_) (fun h1 => ?_)
  · rw [if_pos h1]; exact ⟨rfl, rfl⟩
  · rw [if_neg (by rw [h1]; simp)]; exact ⟨rfl, rfl⟩
/-- The bounds of a variable. -/
def Rd.rng (r : Rd) : (Int × Int) × Rd :=
  ((r.whole.1, (r.whole.2.must [46, 46]).whole.1), if (r.whole.2.must [46, 46]).whole.1 < r.whole.1 ∧ (r.whole.2.must [46, 46]).whole.2.code = 0 then ⟨40, (r.whole.2.must [46, 46]).next.pl, (r.whole.2.must [46, 46]).whole.2.toks, (r.whole.2.must [46, 46]).whole.2.opn⟩ else (r.whole.2.must [46, 46]).whole.2)
theorem Rd.ok.rng {r : Rd} (h : r.ok) : r.to r.rng.2 := by
  have h1 := h.whole.trans h.whole.ok.must (c := r.whole.2.must [46, 46])
  have h2 := h1.trans h1.ok.whole
  unfold Rd.rng
  dsimp only
  split
  · refine ⟨⟨h2.ok.last, h2.ok.len, h2.ok.o0, h2.ok.o1, fun e => absurd e (by show ¬ (40 : Int) = 0; decide)⟩, ?_, h2.opn⟩
    unfold Rd.m; rw [if_neg (by show ¬ (40 : Int) = 0; decide)]; omega
  · exact h2
def Rd.fin (r : Rd) : Int × Rd := ((r.must [61]).whole.1, (r.must [61]).whole.2.must [59])
theorem Rd.ok.fin {r : Rd} (h : r.ok) : r.to r.fin.2 := by
  have h1 := h.must.trans h.must.ok.whole (c := (r.must [61]).whole.2)
  exact h1.trans h1.ok.must
/-- A variable's bool. -/
def Rd.bol (r : Rd) : Int × Rd := if (r.must [61]).is [116, 114, 117, 101] = true then (1, (r.must [61]).take.must [59]) else (0, ((r.must [61]).must [102, 97, 108, 115, 101]).must [59])
theorem Rd.ok.bol {r : Rd} (h : r.ok) : r.to r.bol.2 := by
  have h1 := h.must (s := [61])
  unfold Rd.bol
  split
  · have := h1.trans h1.ok.take
    exact this.trans this.ok.must
  · have := h1.trans h1.ok.must (c := (r.must [61]).must [102, 97, 108, 115, 101])
    exact this.trans this.ok.must
def Rd.var (r : Rd) : Vr × Rd :=
  if (r.name.2.must [58]).is [98, 111, 111, 108] = true then (⟨r.name.1.1, 1, 0, 0, (r.name.2.must [58]).take.bol.1, r.name.1.2⟩, (r.name.2.must [58]).take.bol.2)
  else if (r.name.2.must [58]).is [105, 110, 116] = true then (⟨r.name.1.1, 2, 0, 0, (r.name.2.must [58]).take.fin.1, r.name.1.2⟩, (r.name.2.must [58]).take.fin.2)
  else (⟨r.name.1.1, 3, (r.name.2.must [58]).rng.1.1, (r.name.2.must [58]).rng.1.2, (r.name.2.must [58]).rng.2.fin.1, r.name.1.2⟩, (r.name.2.must [58]).rng.2.fin.2)
theorem Rd.ok.var {r : Rd} (h : r.ok) : r.to r.var.2 := by
  have h1 := h.name.trans h.name.ok.must (c := r.name.2.must [58])
  unfold Rd.var
  split
  · exact h1.trans (h1.ok.take.trans h1.ok.take.ok.bol)
  · split
    · exact h1.trans (h1.ok.take.trans h1.ok.take.ok.fin)
    · exact h1.trans (h1.ok.rng.trans h1.ok.rng.ok.fin)
theorem var_c (r : Rd) (h : r.ok) : PFun Tryz.prog 69 [.ptr 0 0] [r.b] r.var.1.v [r.var.2.b] := by
  have h0 := h.name
  have h1 := h0.trans h0.ok.must (c := r.name.2.must [58])
  refine fn_sem pok 80 1 Tryz.func69 (by kernel_rfl) rfl rfl rfl rfl ?_
  refine SWp.go pok (by kernel_rfl) ?_
  unfold Rd.var
  refine PFun.call (name_c r h) ?_
  generalize r.name = q at h0 h1 ⊢
  obtain ⟨⟨nm, np⟩, r0⟩ := q
  dsimp only at h0 h1 ⊢
  refine PFun.call (must_c r0 [58] h0.ok) ?_
  generalize r0.must [58] = r1 at h1 ⊢
  refine PFun.call (may_c r1 [98, 111, 111, 108] h1.ok) ?_
  unfold Rd.may
  by_cases hb : r1.is [98, 111, 111, 108] = true
  · rw [if_pos hb, if_pos hb]
    have ht := h1.ok.take
    generalize r1.take = r2 at ht ⊢
    have hm := ht.ok.must (s := [61])
    refine PFun.call (must_c r2 [61] ht.ok) ?_
    unfold Rd.bol
    refine PFun.call (may_c _ [116, 114, 117, 101] hm.ok) ?_
    unfold Rd.may
    by_cases hs : (r2.must [61]).is [116, 114, 117, 101] = true
    · rw [if_pos hs, if_pos hs]
      refine PFun.call (must_c _ [59] hm.ok.take.ok) ?_
      exact ⟨rfl, rfl⟩
    · rw [if_neg hs, if_neg hs]
      refine PFun.call (must_c _ [102, 97, 108, 115, 101] hm.ok) ?_
      refine PFun.call (must_c _ [59] hm.ok.must.ok) ?_
      exact ⟨rfl, rfl⟩
  rw [if_neg hb, if_neg hb]
  refine PFun.call (may_c r1 [105, 110, 116] h1.ok) ?_
  unfold Rd.may
  by_cases hi : r1.is [105, 110, 116] = true
  · rw [if_pos hi, if_pos hi]
    have ht := h1.ok.take
    generalize r1.take = r2 at ht ⊢
    have hm := ht.ok.must (s := [61])
    refine PFun.call (must_c r2 [61] ht.ok) ?_
    refine PFun.call (whole_c _ hm.ok) ?_
    refine PFun.call (must_c _ [59] hm.ok.whole.ok) ?_
    exact ⟨rfl, rfl⟩
  rw [if_neg hi, if_neg hi]
  have hw := h1.ok.whole
  have hr := h1.ok.rng
  unfold Rd.rng at hr ⊢
  refine PFun.call (whole_c r1 h1.ok) ?_
  generalize r1.whole = q at hw hr ⊢
  obtain ⟨lo, r2⟩ := q
  dsimp only at hw hr ⊢
  have hm := hw.ok.must (s := [46, 46])
  refine PFun.call (must_c r2 [46, 46] hw.ok) ?_
  generalize r2.must [46, 46] = r3 at hm hr ⊢
  refine PFun.call (next_c r3 hm.ok) ?_
  have hw2 := hm.ok.whole
  refine PFun.call (whole_c r3 hm.ok) ?_
  generalize r3.whole = q at hw2 hr ⊢
  obtain ⟨hi_, r4⟩ := q
  dsimp only at hw2 hr ⊢
  by_cases hc : hi_ < lo ∧ r4.code = 0
  · rw [if_pos hc] at hr ⊢
    refine brP_true (by simpa using hc.1) ?_
    refine brP_true (by simpa using hc.2) ?_
    have hm5 := hr.ok.must (s := [61])
    refine PFun.call (must_c ⟨40, r3.next.pl, r4.toks, r4.opn⟩ [61] hr.ok) ?_
    refine PFun.call (whole_c _ hm5.ok) ?_
    refine PFun.call (must_c _ [59] hm5.ok.whole.ok) ?_
    exact ⟨rfl, rfl⟩
  · rw [if_neg hc] at hr ⊢
    have hm5 := hr.ok.must (s := [61])
    refine brP_split (fun hlt => ?_) (fun hlt => ?_)
    · refine brP_false (by simp; intro e; exact hc ⟨by simpa using hlt, e⟩) ?_
      refine PFun.call (must_c r4 [61] hr.ok) ?_
      refine PFun.call (whole_c _ hm5.ok) ?_
      refine PFun.call (must_c _ [59] hm5.ok.whole.ok) ?_
      exact ⟨rfl, rfl⟩
    · refine PFun.call (must_c r4 [61] hr.ok) ?_
      refine PFun.call (whole_c _ hm5.ok) ?_
      refine PFun.call (must_c _ [59] hm5.ok.whole.ok) ?_
      exact ⟨rfl, rfl⟩
def Rd.meth (r : Rd) : Mt × Rd := (⟨r.name.1.1, r.name.2.block.1, r.name.1.2⟩, r.name.2.block.2)
theorem Rd.ok.meth {r : Rd} (h : r.ok) : r.to r.meth.2 := h.name.trans h.name.ok.block
theorem meth_c (r : Rd) (h : r.ok) : PFun Tryz.prog 70 [.ptr 0 0] [r.b] r.meth.1.v [r.meth.2.b] := by
  refine fn_sem pok 14 1 Tryz.func70 (by kernel_rfl) rfl rfl rfl rfl ?_
  refine SWp.go pok (by kernel_rfl) ?_
  refine PFun.call (name_c r h) ?_
  refine PFun.call (block_c _ h.name.ok) ?_
  exact ⟨rfl, rfl⟩
def Rd.cnt (r : Rd) : (Bool × Int) × Rd := if r.next.kind = 2 then ((false, r.next.n), r.take) else ((true, 0), r.must [42])
theorem Rd.ok.cnt {r : Rd} (h : r.ok) : r.to r.cnt.2 := by
  unfold Rd.cnt; split
  · exact h.take
  · exact h.must
def Rd.role (r : Rd) : Ro × Rd := (⟨r.name.1.1, r.name.2.cnt.1.1, r.name.2.cnt.1.2, r.name.2.cnt.2.block.1, r.name.1.2⟩, r.name.2.cnt.2.block.2)
theorem Rd.ok.role {r : Rd} (h : r.ok) : r.to r.role.2 := by
  have := h.name.trans h.name.ok.cnt
  exact this.trans this.ok.block
theorem role_c (r : Rd) (h : r.ok) : PFun Tryz.prog 41 [.ptr 0 0] [r.b] r.role.1.v [r.role.2.b] := by
  have h0 := h.name
  unfold Rd.role
  refine fn_sem pok 26 1 Tryz.func41 (by kernel_rfl) rfl rfl rfl rfl ?_
  refine SWp.go pok (by kernel_rfl) ?_
  refine PFun.call (name_c r h) ?_
  generalize r.name = q at h0 ⊢
  obtain ⟨⟨nm, np⟩, r1⟩ := q
  dsimp only at h0 ⊢
  have hc := h0.ok.cnt
  refine PFun.call (next_c r1 h0.ok) ?_
  unfold Rd.cnt at hc ⊢
  refine brP_split (fun h1 => ?_) (fun h1 => ?_)
  · rw [if_pos (by simpa using h1)] at hc ⊢
    refine PFun.call (take_c r1 h0.ok) ?_
    refine PFun.call (block_c _ hc.ok) ?_
    exact ⟨rfl, rfl⟩
  · rw [if_neg (by simpa using h1)] at hc ⊢
    refine PFun.call (must_c r1 [42] h0.ok) ?_
    refine PFun.call (block_c _ hc.ok) ?_
    exact ⟨rfl, rfl⟩
end Go.Proofs.YtmflfcbebeikcaaGreat.Q

namespace Go.Proofs.YtmflfcbebeikcaaGreat.Q
open Go.RowKit
variable [Amb]
def wVar : Str := [118, 97, 114]
def wMethod : Str := [109, 101, 116, 104, 111, 100]
def wMonitor : Str := [109, 111, 110, 105, 116, 111, 114]
def wThread : Str := [116, 104, 114, 101, 97, 100]

def varsF : Nat → List Vr → Rd → List Vr × Rd
  | 0, l, r => (l, r)
  | f + 1, l, r => if r.is wVar = true then varsF f (l ++ [(r.room l.length 16).take.var.1]) (r.room l.length 16).take.var.2 else (l, r)
def methsF : Nat → List Mt → Rd → List Mt × Rd
  | 0, l, r => (l, r)
  | f + 1, l, r => if r.is wMethod = true then methsF f (l ++ [(r.room l.length 16).take.meth.1]) (r.room l.length 16).take.meth.2 else (l, r)
theorem Rd.ok.roomTake {r : Rd} (h : r.ok) {s : Str} (hi : r.is s = true) (n most : Int) : r.to (r.room n most).take ∧ (r.room n most).take.m < r.m := by
  have h1 := h.room (n := n) (most := most)
  refine ⟨h1.trans h1.ok.take, ?_⟩
  obtain ⟨d1, d2⟩ := Rd.is_not5 hi
  unfold Rd.room
  by_cases hm : n ≥ most
  · rw [if_pos hm]
    have h1 := Rd.fail_m d1 h (e := 6) (by decide)
    have h2 := (h.fail (e := 6) (by decide)).ok.take.m
    omega
  · rw [if_neg hm]; exact (h.isTake hi).1
theorem vars_to (f : Nat) : ∀ (l : List Vr) (r : Rd), r.ok → r.to (varsF f l r).2 := by
  induction f with
  | zero => exact fun l r h => h.to
  | succ f ih =>
    intro l r h
    rw [varsF]
    split
    · rename_i hi
      have h1 := (h.roomTake hi l.length 16).1
      have h2 := h1.trans h1.ok.var
      exact h2.trans (ih _ _ h2.ok)
    · exact h.to
theorem meths_to (f : Nat) : ∀ (l : List Mt) (r : Rd), r.ok → r.to (methsF f l r).2 := by
  induction f with
  | zero => exact fun l r h => h.to
  | succ f ih =>
    intro l r h
    rw [methsF]
    split
    · rename_i hi
      have h1 := (h.roomTake hi l.length 16).1
      have h2 := h1.trans h1.ok.meth
      exact h2.trans (ih _ _ h2.ok)
    · exact h.to
def Rd.vars (r : Rd) : List Vr × Rd := varsF (r.m + 1) [] r
def Rd.meths (r : Rd) : List Mt × Rd := methsF (r.m + 1) [] r
/-- What a monitor has between { and }. -/
def Rd.monB (r : Rd) : (List Vr × List Mt) × Rd := ((r.vars.1, r.vars.2.meths.1), r.vars.2.meths.2.must [125])
theorem Rd.ok.monB {r : Rd} (h : r.ok) : r.to r.monB.2 := by
  have h1 := vars_to (r.m + 1) [] r h
  have h2 := h1.trans (meths_to (r.vars.2.m + 1) [] r.vars.2 h1.ok)
  exact h2.trans h2.ok.must
theorem mon1_c (nm : Str) (pl : Int) (r : Rd) (h : r.ok) :
    PFun Tryz.prog 68 [.ptr 0 0, .ptr 2 0] [.box [.ptr 1 0], r.b, .box [sv' nm, .fsl [], .fsl [], iv pl]] (.tup [])
      [.box [.ptr 1 0], r.monB.2.b, .box [sv' nm, .gsl (r.monB.1.1.map Vr.c) 3, .gsl (r.monB.1.2.map Mt.c) 4, iv pl], .tip 6 r.monB.1.1.length, .tip 3 r.monB.1.2.length] := by
  have hl0 := h.len
  refine fn_sem pok 37 3 Tryz.func68 (by kernel_rfl) rfl rfl rfl rfl ?_
  refine SWp.go pok (by kernel_rfl) ?_
  refine SWp.tipBox 2 1 6 rfl rfl ?_
  refine SWp.loop (fun q : Nat × List Vr × List (List D) × Rd => q.1 ≤ r.m + 1 ∧ q.2.2.1 = q.2.1.map Vr.c ∧ q.2.2.2.ok ∧ q.2.2.2.m < q.1 ∧ q.2.1.length + q.2.2.2.m ≤ r.m ∧ varsF q.1 q.2.1 q.2.2.2 = r.vars)
    (fun q => ([(0, .ptr 0 0), (1, .ptr 2 0)], [.box [.ptr 1 0], q.2.2.2.b, .box [sv' nm, .gsl q.2.2.1 3, .fsl [], iv pl], .tip 6 q.2.1.length])) (fun q => q.2.2.2.m) (r.m + 1, [], [], r) ⟨Nat.le_refl _, rfl, h, by dsimp only; omega, by dsimp only; simp, rfl⟩ (Le.same ⟨rfl, rfl, trivial⟩) (fun q hq => ?_)
  obtain ⟨f1, l, rows, r1⟩ := q
  obtain ⟨hle, hrw, hok, hfu, hln, he⟩ := hq
  dsimp only at hle hrw hok hfu hln he
  subst hrw
  have hml := r.m_len
  cases f1 with
  | zero => omega
  | succ f' =>
    rw [varsF] at he
    refine SWp.go pok (by kernel_rfl) ?_
    refine PFun.call (is_c r1 wVar hok) ?_
    by_cases hi : r1.is wVar = true
    · rw [if_pos hi] at he
      refine brP_true hi ?_
      obtain ⟨t1, t2⟩ := hok.roomTake hi l.length 16
      have hroom := room_c r1 (l.map Vr.c).length 16 hok
      rw [List.length_map] at hroom
      refine PFun.call (by rw [List.length_map]; exact hroom) ?_
      refine PFun.call (take_c _ hok.room.ok) ?_
      have hv := t1.ok.var
      refine ⟨_, _, var_c _ t1.ok, ?_⟩
      generalize (r1.room l.length 16).take.var = q2 at he hv ⊢
      obtain ⟨x, r2⟩ := q2
      dsimp only at he hv ⊢
      have hvm := hv.m
      refine ⟨⟨by simp, RL_vr l, fun r hr => by simp at hr; subst hr; rfl, by simp; omega⟩, ?_⟩
      refine ⟨(f', l ++ [x], (l ++ [x]).map Vr.c, r2), ⟨by omega, rfl, hv.ok, by dsimp only; omega, by dsimp only; rw [List.length_append, List.length_singleton]; omega, he⟩, by dsimp only; omega, .inr ⟨[0, 1, 2, 3], ⟨rfl, rfl⟩, ?_, rfl, rfl, trivial⟩⟩
      simp only [List.map_append, List.map_cons, List.map_nil, List.length_append, List.length_map]
      rfl
    · rw [if_neg hi] at he
      refine brP_false (by simpa using hi) ?_
      unfold Rd.monB
      rw [← he]
      dsimp only
      refine SWp.tipBox 2 2 3 rfl rfl ?_
      refine SWp.loop (fun q : Nat × List Mt × List (List D) × Rd => q.1 ≤ r1.m + 1 ∧ q.2.2.1 = q.2.1.map Mt.c ∧ q.2.2.2.ok ∧ q.2.2.2.m < q.1 ∧ q.2.1.length + q.2.2.2.m ≤ r1.m ∧ methsF q.1 q.2.1 q.2.2.2 = r1.meths)
        (fun q => ([(0, .ptr 0 0), (1, .ptr 2 0)], [.box [.ptr 1 0], q.2.2.2.b, .box [sv' nm, .gsl (l.map Vr.c) 3, .gsl q.2.2.1 4, iv pl], .tip 6 l.length, .tip 3 q.2.1.length])) (fun q => q.2.2.2.m) (r1.m + 1, [], [], r1) ⟨Nat.le_refl _, rfl, hok, by dsimp only; omega, by dsimp only; simp, rfl⟩ (Le.same ⟨rfl, rfl, trivial⟩) (fun q hq => ?_)
      obtain ⟨f2, ms, rows, r2⟩ := q
      obtain ⟨hle2, hrw, hok2, hfu2, hln2, he2⟩ := hq
      dsimp only at hle2 hrw hok2 hfu2 hln2 he2
      subst hrw
      cases f2 with
      | zero => omega
      | succ f2' =>
        rw [methsF] at he2
        refine SWp.go pok (by kernel_rfl) ?_
        refine PFun.call (is_c r2 wMethod hok2) ?_
        by_cases hi2 : r2.is wMethod = true
        · rw [if_pos hi2] at he2
          refine brP_true hi2 ?_
          obtain ⟨t1, t2⟩ := hok2.roomTake hi2 ms.length 16
          have hroom := room_c r2 (ms.map Mt.c).length 16 hok2
          rw [List.length_map] at hroom
          refine PFun.call (by rw [List.length_map]; exact hroom) ?_
          refine PFun.call (take_c _ hok2.room.ok) ?_
          have hv := t1.ok.meth
          refine ⟨_, _, meth_c _ t1.ok, ?_⟩
          generalize (r2.room ms.length 16).take.meth = q2 at he2 hv ⊢
          obtain ⟨x, r3⟩ := q2
          dsimp only at he2 hv ⊢
          have hvm := hv.m
          refine ⟨⟨by simp, RL_mt ms, fun r hr => by simp at hr; subst hr; rfl, by simp; omega⟩, ?_⟩
          refine ⟨(f2', ms ++ [x], (ms ++ [x]).map Mt.c, r3), ⟨by omega, rfl, hv.ok, by dsimp only; omega, by dsimp only; rw [List.length_append, List.length_singleton]; omega, he2⟩, by dsimp only; omega, .inr ⟨[0, 1, 2, 3, 4], ⟨rfl, rfl⟩, ?_, rfl, rfl, trivial⟩⟩
          simp only [List.map_append, List.map_cons, List.map_nil, List.length_append, List.length_map]
          rfl
        · rw [if_neg hi2] at he2
          refine brP_false (by simpa using hi2) ?_
          rw [← he2]
          refine PFun.call (must_c _ [125] hok2) ?_
          exact ⟨rfl, rfl⟩
/-- A monitor. -/
def Rd.mon (r : Rd) : Mo × Rd := if r.name.2.is [123] = true then (⟨r.name.1.1, r.name.2.enter.monB.1.1, r.name.2.enter.monB.1.2, r.name.1.2⟩, r.name.2.enter.monB.2.leave) else (⟨r.name.1.1, [], [], r.name.1.2⟩, r.name.2.fail 40)
theorem Rd.ok.mon {r : Rd} (h : r.ok) : r.to r.mon.2 := by
  unfold Rd.mon
  split
  · rename_i hi
    obtain ⟨g1, g2⟩ := ent h.name.ok hi
    exact h.name.trans (g2 _ g1.monB).1
  · exact h.name.trans (h.name.ok.fail (by decide))
theorem mon_c (r : Rd) (h : r.ok) : PFun Tryz.prog 40 [.ptr 0 0] [r.b] r.mon.1.v [r.mon.2.b] := by
  have h0 := h.name
  unfold Rd.mon
  refine fn_sem pok 20 1 Tryz.func40 (by kernel_rfl) rfl rfl rfl rfl ?_
  refine SWp.go pok (by kernel_rfl) ?_
  refine PFun.call (name_c r h) ?_
  generalize r.name = q at h0 ⊢
  obtain ⟨⟨nm, np⟩, r1⟩ := q
  dsimp only at h0 ⊢
  refine PFun.call (is_c r1 [123] h0.ok) ?_
  by_cases hi : r1.is [123] = true
  · rw [if_pos hi]
    refine brP_false (by rw [hi]; rfl) ?_
    obtain ⟨d1, d2⟩ := Rd.is_not5 hi
    obtain ⟨g1, g2, g3⟩ := h0.ok.enter d1 d2
    have hm := g1.monB
    refine PFun.call (withinMon nm np _ _ _ _ r1 r1.enter.monB.2 h0.ok d1 (hm.opn.trans g3) (mon1_c nm np r1.enter g1)) ?_
    exact ⟨rfl, rfl⟩
  · rw [if_neg hi]
    refine brP_true (by simpa using hi) ?_
    refine PFun.call (fail_c r1 40 h0.ok) ?_
    exact ⟨rfl, rfl⟩
/-- Monitors and roles. -/
def progF : Nat → List Mo → List Ro → Rd → (List Mo × List Ro) × Rd
  | 0, l, k, r => ((l, k), r)
  | f + 1, l, k, r => if r.code = 0 ∧ ¬ r.next.kind = 5 then
      (if r.is wMonitor = true then progF f (l ++ [(r.room l.length 8).take.mon.1]) k (r.room l.length 8).take.mon.2
       else if r.is wThread = true then progF f l (k ++ [(r.room k.length 8).take.role.1]) (r.room k.length 8).take.role.2
       else progF f l k (r.fail 40))
    else ((l, k), r)
def Rd.prog (r : Rd) : (List Mo × List Ro) × Rd := progF (r.m + 1) [] [] r
theorem prog_to (f : Nat) : ∀ (l : List Mo) (k : List Ro) (r : Rd), r.ok → r.to (progF f l k r).2 := by
  induction f with
  | zero => exact fun l k r h => h.to
  | succ f ih =>
    intro l k r h
    rw [progF]
    split
    · split
      · rename_i hi
        have h1 := (h.roomTake hi l.length 8).1
        have h2 := h1.trans h1.ok.mon
        exact h2.trans (ih _ _ _ h2.ok)
      split
      · rename_i hi
        have h1 := (h.roomTake hi k.length 8).1
        have h2 := h1.trans h1.ok.role
        exact h2.trans (ih _ _ _ h2.ok)
      · have h2 := h.fail (e := 40) (by decide)
        exact h2.trans (ih _ _ _ h2.ok)
    · exact h.to
end Go.Proofs.YtmflfcbebeikcaaGreat.Q

namespace Go.Proofs.YtmflfcbebeikcaaGreat.Q
open Go.RowKit
variable [Amb]

theorem Rd.next5 {r : Rd} : ¬ r.next.kind = 5 ↔ (r.next.kind != 5) = true := by simp
theorem prog_c (r : Rd) (h : r.ok) : PFun Tryz.prog 17 [.ptr 0 0] [r.b] (Pg.mk r.prog.1.1 r.prog.1.2).v [r.prog.2.b] := by
  have hl0 := h.len
  have hml := r.m_len
  refine fn_sem pok 52 1 Tryz.func17 (by kernel_rfl) rfl rfl rfl rfl ?_
  refine SWp.go pok (by kernel_rfl) ?_
  refine SWp.tipBox 1 0 4 rfl rfl ?_
  refine SWp.tipBox 1 1 5 rfl rfl ?_
  refine SWp.loop (fun q : Nat × (List Mo × List Ro) × (List (List D) × List (List D)) × Rd => q.1 ≤ r.m + 1 ∧ q.2.2.1.1 = q.2.1.1.map Mo.c ∧ q.2.2.1.2 = q.2.1.2.map Ro.c ∧ q.2.2.2.ok ∧ q.2.2.2.m < q.1 ∧ q.2.1.1.length + q.2.1.2.length + q.2.2.2.m ≤ r.m ∧ progF q.1 q.2.1.1 q.2.1.2 q.2.2.2 = r.prog)
    (fun q => ([(0, .ptr 0 0), (2, .ptr 1 0)], [q.2.2.2.b, .box [.gsl q.2.2.1.1 2, .gsl q.2.2.1.2 3], .tip 4 q.2.1.1.length, .tip 5 q.2.1.2.length])) (fun q => q.2.2.2.m) (r.m + 1, ([], []), ([], []), r) ⟨Nat.le_refl _, rfl, rfl, h, by dsimp only; omega, by dsimp only; simp, rfl⟩ (Le.same ⟨rfl, rfl, trivial⟩) (fun q hq => ?_)
  obtain ⟨f1, ⟨l, k⟩, ⟨rows, rows2⟩, r1⟩ := q
  obtain ⟨hle, hrw, hrw2, hok, hfu, hln, he⟩ := hq
  dsimp only at hle hrw hrw2 hok hfu hln he
  subst hrw
  subst hrw2
  cases f1 with
  | zero => omega
  | succ f' =>
    rw [progF] at he
    refine SWp.go pok (by kernel_rfl) ?_
    by_cases hc : r1.code = 0 ∧ ¬ r1.next.kind = 5
    · rw [if_pos hc] at he
      refine brP_true (by simpa using hc.1) ?_
      refine PFun.call (next_c r1 hok) ?_
      refine brP_true (by simpa using hc.2) ?_
      refine PFun.call (is_c r1 wMonitor hok) ?_
      by_cases hi : r1.is wMonitor = true
      · rw [if_pos hi] at he
        refine brP_true hi ?_
        obtain ⟨t1, t2⟩ := hok.roomTake hi l.length 8
        have hroom := room_c r1 (l.map Mo.c).length 8 hok
        rw [List.length_map] at hroom
        refine PFun.call (by rw [List.length_map]; exact hroom) ?_
        refine PFun.call (take_c _ hok.room.ok) ?_
        have hv := t1.ok.mon
        refine ⟨_, _, mon_c _ t1.ok, ?_⟩
        generalize (r1.room l.length 8).take.mon = q2 at he hv ⊢
        obtain ⟨x, r2⟩ := q2
        dsimp only at he hv ⊢
        have hvm := hv.m
        refine ⟨⟨by simp, RL_mo l, fun r hr => by simp at hr; subst hr; rfl, by simp; omega⟩, ?_⟩
        refine ⟨(f', (l ++ [x], k), ((l ++ [x]).map Mo.c, k.map Ro.c), r2), ⟨by omega, rfl, rfl, hv.ok, by dsimp only; omega, by dsimp only; rw [List.length_append, List.length_singleton]; omega, he⟩, by dsimp only; omega, .inr ⟨[0, 1, 2, 3], ⟨rfl, rfl⟩, ?_, rfl, rfl, trivial⟩⟩
        simp only [List.map_append, List.map_cons, List.map_nil, List.length_append, List.length_map]
        rfl
      rw [if_neg hi] at he
      refine brP_false (by simpa using hi) ?_
      refine PFun.call (is_c r1 wThread hok) ?_
      by_cases hi : r1.is wThread = true
      · rw [if_pos hi] at he
        refine brP_true hi ?_
        obtain ⟨t1, t2⟩ := hok.roomTake hi k.length 8
        have hroom := room_c r1 (k.map Ro.c).length 8 hok
        rw [List.length_map] at hroom
        refine PFun.call (by rw [List.length_map]; exact hroom) ?_
        refine PFun.call (take_c _ hok.room.ok) ?_
        have hv := t1.ok.role
        refine ⟨_, _, role_c _ t1.ok, ?_⟩
        generalize (r1.room k.length 8).take.role = q2 at he hv ⊢
        obtain ⟨x, r2⟩ := q2
        dsimp only at he hv ⊢
        have hvm := hv.m
        refine ⟨⟨by simp, RL_ro k, fun r hr => by simp at hr; subst hr; rfl, by simp; omega⟩, ?_⟩
        refine ⟨(f', (l, k ++ [x]), (l.map Mo.c, (k ++ [x]).map Ro.c), r2), ⟨by omega, rfl, rfl, hv.ok, by dsimp only; omega, by dsimp only; rw [List.length_append, List.length_singleton]; omega, he⟩, by dsimp only; omega, .inr ⟨[0, 1, 2, 3], ⟨rfl, rfl⟩, ?_, rfl, rfl, trivial⟩⟩
        simp only [List.map_append, List.map_cons, List.map_nil, List.length_append, List.length_map]
        rfl
      rw [if_neg hi] at he
      refine brP_false (by simpa using hi) ?_
      refine PFun.call (fail_c r1 40 hok) ?_
      have hlt := Rd.fail_m hc.1 hok (e := 40) (by decide)
      exact ⟨(f', (l, k), (l.map Mo.c, k.map Ro.c), r1.fail 40), ⟨by omega, rfl, rfl, (hok.fail (by decide)).ok, by dsimp only; omega, by dsimp only; omega, he⟩, hlt, .inr ⟨[0, 1, 2, 3], ⟨rfl, rfl⟩, by simp only [List.length_map]; rfl, rfl, rfl, trivial⟩⟩
    · rw [if_neg hc] at he
      rw [← he]
      by_cases hc0 : r1.code = 0
      · have h1 : r1.next.kind = 5 := Classical.byContradiction fun e => hc ⟨hc0, e⟩
        refine brP_true (by simpa using hc0) ?_
        refine PFun.call (next_c r1 hok) ?_
        refine brP_false (by simpa using h1) ?_
        exact ⟨rfl, rfl⟩
      · refine brP_false (by simpa using hc0) ?_
        exact ⟨rfl, rfl⟩
theorem scanF_ok (s : Str) (hs : s.length ≤ 20000) : ∀ (f a : Nat) (l : List Tk), a ≤ s.length → l.length ≤ a → s.length - a < f → (scanF s f a l).2.1 = 0 → (∃ k t, (scanF s f a l).1 = k ++ [t] ∧ t.kind = 5) ∧ (scanF s f a l).1.length < 1073741824
  | 0, a, l, _, _, h, _ => by omega
  | f + 1, a, l, ha, hl, hf, h => by
    rw [scanF] at h ⊢
    by_cases hlt : a < s.length
    · rw [if_pos hlt] at h ⊢
      by_cases h0 : (nextS s a l).1 = 0
      · rw [if_pos h0] at h ⊢
        obtain ⟨g1, g2, g3⟩ := next_ok hlt h0
        exact scanF_ok s hs f _ _ g2 (by omega) (by omega) h
      · rw [if_neg h0] at h; exact absurd h h0
    · rw [if_neg hlt]
      exact ⟨⟨l, _, rfl, rfl⟩, by simp; omega⟩
theorem scanS_ok {s : Str} (h : (scanS s).2.1 = 0) : Rd.ok ⟨0, 0, (scanS s).1, 0⟩ := by
  unfold scanS at h ⊢
  by_cases hs : s.length > 20000
  · rw [if_pos hs] at h; exact absurd h (by decide)
  · rw [if_neg hs] at h ⊢
    obtain ⟨h1, h2⟩ := scanF_ok s (by omega) (s.length + 1) 0 [] (Nat.zero_le _) (Nat.le_refl _) (by omega) h
    exact ⟨h1, h2, Int.le_refl _, by show (0 : Int) ≤ 65; decide, fun _ => by show (0 : Int) ≤ 64; decide⟩
/-- A text as a program: the tree, or an error, and where. -/
def parseS (s : Str) : Pg × Int × Int :=
  if (scanS s).2.1 = 0 then (if (Rd.mk 0 0 (scanS s).1 0).prog.2.code = 0 then (⟨(Rd.mk 0 0 (scanS s).1 0).prog.1.1, (Rd.mk 0 0 (scanS s).1 0).prog.1.2⟩, 0, 0) else (⟨[], []⟩, (Rd.mk 0 0 (scanS s).1 0).prog.2.code, (Rd.mk 0 0 (scanS s).1 0).prog.2.at_))
  else (⟨[], []⟩, (scanS s).2.1, (scanS s).2.2)
theorem parse_c (s : Str) (hs : s.length < 1073741824) : PFun Tryz.prog 8 [sv' s] [] (.tup [(parseS s).1.v, iv (parseS s).2.1, iv (parseS s).2.2]) [] := by
  refine fn_sem pok 44 0 Tryz.func8 (by kernel_rfl) rfl rfl rfl rfl ?_
  refine SWp.go pok (by kernel_rfl) ?_
  have hok := scanS_ok (s := s)
  refine PFun.call (scan_c s hs) ?_
  unfold parseS
  generalize scanS s = q at hok ⊢
  obtain ⟨l, e, a⟩ := q
  dsimp only at hok ⊢
  refine brP_split (fun h => ?_) (fun h => ?_)
  · rw [if_neg (by simpa using h)]
    exact fin1 rfl
  · have h : e = 0 := by simpa using h
    rw [if_pos h]
    have hok := hok h
    refine PFun.call (prog_c _ hok) ?_
    generalize (Rd.mk 0 0 l 0).prog = q2
    obtain ⟨⟨ms, rs⟩, r2⟩ := q2
    dsimp only
    refine brP_split (fun h2 => ?_) (fun h2 => ?_)
    · rw [if_neg (by simpa using h2)]
      exact fin1 rfl
    · rw [if_pos (by simpa using h2)]
      exact fin1 rfl
/-- A text as an expression: the tree, or an error, and where. -/
def exprS (s : Str) : Ex × Int × Int :=
  if (scanS s).2.1 = 0 then (if ((Rd.mk 0 0 (scanS s).1 0).expr.2.of 5).2.code = 0 then ((Rd.mk 0 0 (scanS s).1 0).expr.1, 0, 0) else (ex0, ((Rd.mk 0 0 (scanS s).1 0).expr.2.of 5).2.code, ((Rd.mk 0 0 (scanS s).1 0).expr.2.of 5).2.at_))
  else (ex0, (scanS s).2.1, (scanS s).2.2)
end Go.Proofs.YtmflfcbebeikcaaGreat.Q

namespace Go.Proofs.YtmflfcbebeikcaaGreat.Q
open Go.RowKit
variable [Amb]

theorem stmt_fuel : ∀ N : Nat, (∀ f g r, f ≤ N → g ≤ N → Rd.ok r → 8 * r.m + 1 ≤ f → 8 * r.m + 1 ≤ g → stmtF f r = stmtF g r) ∧
    (∀ f g k pl r, f ≤ N → g ≤ N → Rd.ok r → 8 * r.m + 5 ≤ f → 8 * r.m + 5 ≤ g → compF f k pl r = compF g k pl r) ∧
    (∀ f g l r, f ≤ N → g ≤ N → Rd.ok r → 8 * r.m + 4 ≤ f → 8 * r.m + 4 ≤ g → orF f l r = orF g l r) ∧
    (∀ f g r, f ≤ N → g ≤ N → Rd.ok r → 8 * r.m + 3 ≤ f → 8 * r.m + 3 ≤ g → blockF f r = blockF g r) ∧
    (∀ f g l r, f ≤ N → g ≤ N → Rd.ok r → 8 * r.m + 2 ≤ f → 8 * r.m + 2 ≤ g → stmtsF f l r = stmtsF g l r) := by
  intro N
  induction N with
  | zero => exact ⟨fun f g r _ _ _ h1 h2 => by omega, fun f g k pl r _ _ _ h1 h2 => by omega, fun f g l r _ _ _ h1 h2 => by omega, fun f g r _ _ _ h1 h2 => by omega, fun f g l r _ _ _ h1 h2 => by omega⟩
  | succ N ih =>
    obtain ⟨iS, iC, iO, iB, iL⟩ := ih
    refine ⟨fun f g r hf hg h h1 h2 => ?_, fun f g k pl r hf hg h h1 h2 => ?_, fun f g l r hf hg h h1 h2 => ?_, fun f g r hf hg h h1 h2 => ?_, fun f g l r hf hg h h1 h2 => ?_⟩
    · cases f with
      | zero => omega
      | succ f =>
      cases g with
      | zero => omega
      | succ g =>
      rw [stmtF, stmtF]
      by_cases hk : r.next.kind = 1
      · rw [if_pos hk, if_pos hk]
      rw [if_neg hk, if_neg hk]
      by_cases hk3 : ¬ r.next.kind = 3 ∨ kindOf r.next.text = 0
      · rw [if_pos hk3, if_pos hk3]
      rw [if_neg hk3, if_neg hk3]
      have h3 : r.next.kind = 3 := Classical.byContradiction fun e => hk3 (.inl e)
      obtain ⟨c1, c2⟩ := Rd.next_code (by decide) h3
      obtain ⟨t1, t2⟩ := h.takes c1 (by rw [c2]; decide)
      by_cases hb : 3 ≤ kindOf r.next.text ∧ kindOf r.next.text ≤ 7
      · rw [if_pos hb, if_pos hb]
        exact iC f g _ _ r.take (by omega) (by omega) h.take.ok (by omega) (by omega)
      · rw [if_neg hb, if_neg hb]
    · cases f with
      | zero => omega
      | succ f =>
      cases g with
      | zero => omega
      | succ g =>
      have hh := h.head k
      have hm := hh.m
      have hb : blockF f (r.head k).2 = blockF g (r.head k).2 := iB f g _ (by omega) (by omega) hh.ok (by omega) (by omega)
      have ht := hh.trans ((stmt_to g).2.2.2.1 _ hh.ok)
      have htm := ht.m
      rw [compF, compF, hb]
      have hk := ht.ok.take
      have hkm := hk.m
      rw [iB f g _ (by omega) (by omega) hk.ok (by omega) (by omega), iO f g _ _ (by omega) (by omega) ht.ok (by omega) (by omega)]
    · cases f with
      | zero => omega
      | succ f =>
      cases g with
      | zero => omega
      | succ g =>
      rw [orF, orF]
      by_cases hi : r.is [111, 114] = true
      · rw [if_pos hi, if_pos hi]
        obtain ⟨t1, t2⟩ : r.to (r.room l.length 8).take ∧ (r.room l.length 8).take.m < r.m := by
          have h1 := h.room (n := l.length) (most := 8)
          refine ⟨h1.trans h1.ok.take, ?_⟩
          obtain ⟨d1, d2⟩ := Rd.is_not5 hi
          unfold Rd.room
          by_cases hm : (l.length : Int) ≥ 8
          · rw [if_pos hm]
            have h1 := Rd.fail_m d1 h (e := 6) (by decide)
            have h2 := (h.fail (e := 6) (by decide)).ok.take.m
            omega
          · rw [if_neg hm]; exact (h.isTake hi).1
        rw [iB f g _ (by omega) (by omega) t1.ok (by omega) (by omega)]
        have ht := (stmt_to g).2.2.2.1 _ t1.ok
        have htm := ht.m
        exact iO f g _ _ (by omega) (by omega) ht.ok (by omega) (by omega)
      · rw [if_neg hi, if_neg hi]
    · cases f with
      | zero => omega
      | succ f =>
      cases g with
      | zero => omega
      | succ g =>
      rw [blockF, blockF]
      by_cases hi : r.is [123] = true
      · rw [if_pos hi, if_pos hi]
        obtain ⟨g1, g2⟩ := h.entM hi
        rw [iL f g [] r.enter (by omega) (by omega) g1 (by omega) (by omega)]
      · rw [if_neg hi, if_neg hi]
    · cases f with
      | zero => omega
      | succ f =>
      cases g with
      | zero => omega
      | succ g =>
      rw [stmtsF, stmtsF]
      by_cases hi : r.code = 0 ∧ ¬ r.is [125] = true
      · rw [if_pos hi, if_pos hi]
        rw [iS f g r (by omega) (by omega) h (by omega) (by omega)]
        cases g with
        | zero => omega
        | succ g =>
          have h3 := stmt_lt g r h hi.1
          have h4 := (stmt_to (g + 1)).1 r h
          exact iL f (g + 1) _ _ (by omega) (by omega) h4.ok (by omega) (by omega)
      · rw [if_neg hi, if_neg hi]
def Rd.stmt (r : Rd) : St × Rd := stmtF (8 * r.m + 1) r
def Rd.comp (k pl : Int) (r : Rd) : St × Rd := compF (8 * r.m + 5) k pl r
def Rd.ors (l : List (List St)) (r : Rd) : List (List St) × Rd := orF (8 * r.m + 4) l r
def Rd.stmts (l : List St) (r : Rd) : List St × Rd := stmtsF (8 * r.m + 2) l r
theorem Rd.ok.stmt {r : Rd} (h : r.ok) : r.to r.stmt.2 := (stmt_to _).1 r h
theorem Rd.ok.comp {r : Rd} (h : r.ok) (k pl : Int) : r.to (r.comp k pl).2 := (stmt_to _).2.1 k pl r h
theorem Rd.ok.ors {r : Rd} (h : r.ok) (l : List (List St)) : r.to (r.ors l).2 := (stmt_to _).2.2.1 l r h
theorem Rd.ok.stmts {r : Rd} (h : r.ok) (l : List St) : r.to (r.stmts l).2 := (stmt_to _).2.2.2.2 l r h
theorem stmt_of {f : Nat} {r : Rd} (h : r.ok) (hf : 8 * r.m + 1 ≤ f) : stmtF f r = r.stmt := (stmt_fuel (f + (8 * r.m + 1))).1 f _ r (by omega) (by omega) h hf (Nat.le_refl _)
theorem comp_of {f : Nat} {r : Rd} {k pl : Int} (h : r.ok) (hf : 8 * r.m + 5 ≤ f) : compF f k pl r = r.comp k pl := (stmt_fuel (f + (8 * r.m + 5))).2.1 f _ k pl r (by omega) (by omega) h hf (Nat.le_refl _)
theorem ors_of {f : Nat} {r : Rd} {l : List (List St)} (h : r.ok) (hf : 8 * r.m + 4 ≤ f) : orF f l r = r.ors l := (stmt_fuel (f + (8 * r.m + 4))).2.2.1 f _ l r (by omega) (by omega) h hf (Nat.le_refl _)
theorem block_of {f : Nat} {r : Rd} (h : r.ok) (hf : 8 * r.m + 3 ≤ f) : blockF f r = r.block := (stmt_fuel (f + (8 * r.m + 3))).2.2.2.1 f _ r (by omega) (by omega) h hf (Nat.le_refl _)
theorem stmts_of {f : Nat} {r : Rd} {l : List St} (h : r.ok) (hf : 8 * r.m + 2 ≤ f) : stmtsF f l r = r.stmts l := (stmt_fuel (f + (8 * r.m + 2))).2.2.2.2 f _ l r (by omega) (by omega) h hf (Nat.le_refl _)
theorem Rd.stmt_eq {r : Rd} (h : r.ok) : r.stmt = if r.next.kind = 1 then r.set_ else if ¬ r.next.kind = 3 ∨ kindOf r.next.text = 0 then (⟨kindOf r.next.text, [], [], 0, ex0, [], r.next.pl⟩, r.fail 40) else
    if 3 ≤ kindOf r.next.text ∧ kindOf r.next.text ≤ 7 then r.take.comp (kindOf r.next.text) r.next.pl else r.take.simple (kindOf r.next.text) r.next.pl := by
  rw [show r.stmt = stmtF (8 * r.m + 1) r from rfl, stmtF]
  by_cases hk : r.next.kind = 1
  · rw [if_pos hk, if_pos hk]
  rw [if_neg hk, if_neg hk]
  by_cases hk3 : ¬ r.next.kind = 3 ∨ kindOf r.next.text = 0
  · rw [if_pos hk3, if_pos hk3]
  rw [if_neg hk3, if_neg hk3]
  have h3 : r.next.kind = 3 := Classical.byContradiction fun e => hk3 (.inl e)
  obtain ⟨c1, c2⟩ := Rd.next_code (by decide) h3
  obtain ⟨t1, t2⟩ := h.takes c1 (by rw [c2]; decide)
  rw [comp_of h.take.ok (by omega)]
theorem Rd.comp_eq {r : Rd} (h : r.ok) (k pl : Int) : r.comp k pl =
    if k = 3 then (if (r.head k).2.block.2.is [101, 108, 115, 101] = true then
        (⟨k, (r.head k).1.1, [], 0, (r.head k).1.2, [(r.head k).2.block.1, (r.head k).2.block.2.take.block.1], pl⟩, (r.head k).2.block.2.take.block.2)
      else (⟨k, (r.head k).1.1, [], 0, (r.head k).1.2, [(r.head k).2.block.1], pl⟩, (r.head k).2.block.2))
    else if k = 6 then (⟨k, (r.head k).1.1, [], 0, (r.head k).1.2, ((r.head k).2.block.2.ors [(r.head k).2.block.1]).1, pl⟩, ((r.head k).2.block.2.ors [(r.head k).2.block.1]).2)
    else (⟨k, (r.head k).1.1, [], 0, (r.head k).1.2, [(r.head k).2.block.1], pl⟩, (r.head k).2.block.2) := by
  have hh := h.head k
  have hm := hh.m
  have ht := hh.trans hh.ok.block
  have htm := ht.m
  have hk := ht.ok.take
  have hkm := hk.m
  rw [show r.comp k pl = compF (8 * r.m + 4 + 1) k pl r from rfl, compF, block_of hh.ok (by omega), block_of hk.ok (by omega), ors_of ht.ok (by omega)]
theorem Rd.ors_eq {r : Rd} (h : r.ok) (l : List (List St)) : r.ors l = if r.is [111, 114] = true then (r.room l.length 8).take.block.2.ors (l ++ [(r.room l.length 8).take.block.1]) else (l, r) := by
  rw [show r.ors l = orF (8 * r.m + 3 + 1) l r from rfl, orF]
  by_cases hi : r.is [111, 114] = true
  · rw [if_pos hi, if_pos hi]
    obtain ⟨t1, t2⟩ : r.to (r.room l.length 8).take ∧ (r.room l.length 8).take.m < r.m := by
      have h1 := h.room (n := l.length) (most := 8)
      refine ⟨h1.trans h1.ok.take, ?_⟩
      obtain ⟨d1, d2⟩ := Rd.is_not5 hi
      unfold Rd.room
      by_cases hm : (l.length : Int) ≥ 8
      · rw [if_pos hm]
        have h1 := Rd.fail_m d1 h (e := 6) (by decide)
        have h2 := (h.fail (e := 6) (by decide)).ok.take.m
        omega
      · rw [if_neg hm]; exact (h.isTake hi).1
    have ht := t1.ok.block
    have htm := ht.m
    rw [block_of t1.ok (by omega), ors_of ht.ok (by omega)]
  · rw [if_neg hi, if_neg hi]
theorem Rd.block_eq {r : Rd} (h : r.ok) : r.block = if r.is [123] = true then ((r.enter.stmts []).1, ((r.enter.stmts []).2.must [125]).leave) else ([], r.fail 40) := by
  rw [show r.block = blockF (8 * r.m + 2 + 1) r from rfl, blockF]
  by_cases hi : r.is [123] = true
  · rw [if_pos hi, if_pos hi]
    obtain ⟨g1, g2⟩ := h.entM hi
    rw [stmts_of g1 (by omega)]
  · rw [if_neg hi, if_neg hi]
theorem Rd.stmt_lt {r : Rd} (h : r.ok) (hc : r.code = 0) : r.stmt.2.m < r.m := Q.stmt_lt _ r h hc
theorem Rd.stmts_eq {r : Rd} (h : r.ok) (l : List St) : r.stmts l = if r.code = 0 ∧ ¬ r.is [125] = true then r.stmt.2.stmts (l ++ [r.stmt.1]) else (l, r) := by
  rw [show r.stmts l = stmtsF (8 * r.m + 1 + 1) l r from rfl, stmtsF]
  by_cases hi : r.code = 0 ∧ ¬ r.is [125] = true
  · rw [if_pos hi, if_pos hi]
    have h3 := Rd.stmt_lt h hi.1
    rw [stmt_of h (by omega), stmts_of h.stmt.ok (by omega)]
  · rw [if_neg hi, if_neg hi]
end Go.Proofs.YtmflfcbebeikcaaGreat.Q

namespace Go.Proofs.YtmflfcbebeikcaaGreat.Q
open Go.RowKit
variable [Amb]

/-- What each single step of a reader keeps. -/
structure Stable (I : Rd → Prop) : Prop where
  take : ∀ {r : Rd}, I r → I r.take
  fail : ∀ {r : Rd} {e : Int}, I r → e ≠ 0 → I (r.fail e)
  more : ∀ {r : Rd} {n : Int}, I r → I (r.more n)
  set : ∀ {r r' : Rd}, I r → I r' → r.code = 0 → r'.code = 0 → I ⟨40, r.hd.pl, r'.toks, r'.opn⟩
theorem bad_whole {r : Rd} (h : r.code ≠ 0) : r.whole.2 = r := by
  unfold Rd.whole Rd.may
  rw [if_neg (bad_is h _)]
  dsimp only
  rw [bad_of h (by decide)]
theorem Stable.may {I : Rd → Prop} (hI : Stable I) {r : Rd} (h : I r) {s : Str} : I (r.may s).2 := by unfold Rd.may; split; (exact hI.take h); (exact h)
theorem Stable.must {I : Rd → Prop} (hI : Stable I) {r : Rd} (h : I r) {s : Str} : I (r.must s) := by unfold Rd.must; split; (exact hI.take h); (exact hI.fail h (by decide))
theorem Stable.want {I : Rd → Prop} (hI : Stable I) {r : Rd} (h : I r) {k : Int} : I (r.want k) := by unfold Rd.want; split; (exact h); (exact hI.fail h (by decide))
theorem Stable.of {I : Rd → Prop} (hI : Stable I) {r : Rd} (h : I r) {k : Int} : I (r.of k).2 := hI.take (hI.want h)
theorem Stable.name {I : Rd → Prop} (hI : Stable I) {r : Rd} (h : I r) : I r.name.2 := hI.of h
theorem Stable.pair {I : Rd → Prop} (hI : Stable I) {r : Rd} (h : I r) : I r.pair.2 := hI.name (hI.must (hI.name h))
theorem Stable.room {I : Rd → Prop} (hI : Stable I) {r : Rd} (h : I r) {n most : Int} : I (r.room n most) := by unfold Rd.room; split; (exact hI.fail h (by decide)); (exact h)
theorem Stable.enter {I : Rd → Prop} (hI : Stable I) {r : Rd} (h : I r) : I r.enter := by
  unfold Rd.enter Rd.deep
  split
  · exact hI.take (hI.more (hI.fail h (by decide)))
  · exact hI.take (hI.more h)
theorem Stable.leave {I : Rd → Prop} (hI : Stable I) {r : Rd} (h : I r) : I r.leave := hI.more h
theorem Stable.oper {I : Rd → Prop} (hI : Stable I) {r : Rd} (h : I r) : ∀ l : List (Str × Int), I (r.oper l).2
  | [] => h
  | p :: l => by rw [Rd.oper]; split; (exact hI.take h); (exact hI.oper h l)
theorem Stable.exprF {I : Rd → Prop} (hI : Stable I) (f : Nat) : (∀ lv r, I r → I (binF f lv r).2) ∧ (∀ lv e r, I r → I (loopF f lv e r).2) ∧ (∀ r, I r → I (termF f r).2) := by
  induction f with
  | zero => exact ⟨fun lv r h => by rw [binF]; exact h, fun lv e r h => by rw [loopF]; exact h, fun r h => by rw [termF]; exact h⟩
  | succ f ih =>
    obtain ⟨i1, i2, i3⟩ := ih
    refine ⟨fun lv r h => ?_, fun lv e r h => ?_, fun r h => ?_⟩
    · rw [binF]
      split
      · exact i3 r h
      split
      · exact hI.leave (i1 2 _ (hI.enter h))
      · exact i2 _ _ _ (i1 _ r h)
    · rw [loopF]
      have ho := hI.oper h (lvls.getD lv ([], false)).1
      split
      · have hb := i1 (lv + 1) _ ho
        split
        · exact hb
        · exact i2 _ _ _ hb
      · exact ho
    · rw [termF]
      split
      · split
        · exact hI.leave (i3 _ (hI.enter (hI.take h)))
        · exact hI.take h
      split
      · exact hI.pair h
      split
      · exact hI.leave (i3 _ (hI.enter h))
      split
      · exact hI.leave (hI.must (i1 0 _ (hI.enter h)))
      split
      · exact hI.take h
      split
      · exact hI.take h
      · exact hI.fail h (by decide)
theorem Stable.expr {I : Rd → Prop} (hI : Stable I) {r : Rd} (h : I r) : I r.expr.2 := (hI.exprF _).1 0 r h
theorem Stable.wait {I : Rd → Prop} (hI : Stable I) {r : Rd} (h : I r) : I r.wait.2 := by
  unfold Rd.wait
  split
  · split
    · exact hI.take (hI.fail h (by decide))
    · exact hI.take h
  · exact h
theorem Stable.set_ {I : Rd → Prop} (hI : Stable I) {r : Rd} (h : I r) : I r.set_.2 := hI.must (hI.expr (hI.must (hI.pair h)))
theorem Stable.simple {I : Rd → Prop} (hI : Stable I) {r : Rd} (h : I r) (k pl : Int) : I (r.simple k pl).2 := by
  unfold Rd.simple
  split
  · exact hI.must (hI.pair h)
  split
  · exact hI.must (hI.wait (hI.name h))
  split
  · exact hI.must (hI.name h)
  · exact hI.must h
theorem Stable.head {I : Rd → Prop} (hI : Stable I) {r : Rd} (h : I r) (k : Int) : I (r.head k).2 := by
  unfold Rd.head
  split
  · exact hI.expr h
  split
  · exact hI.name h
  · exact h
theorem Stable.stmtF {I : Rd → Prop} (hI : Stable I) (f : Nat) : (∀ r : Rd, I r → I (stmtF f r).2) ∧ (∀ (k pl : Int) (r : Rd), I r → I (compF f k pl r).2) ∧ (∀ (l : List (List St)) (r : Rd), I r → I (orF f l r).2) ∧ (∀ r : Rd, I r → I (blockF f r).2) ∧ (∀ (l : List St) (r : Rd), I r → I (stmtsF f l r).2) := by
  induction f with
  | zero => exact ⟨fun r h => by rw [Q.stmtF]; exact h, fun k pl r h => by rw [compF]; exact h, fun l r h => by rw [orF]; exact h, fun r h => by rw [blockF]; exact h, fun l r h => by rw [stmtsF]; exact h⟩
  | succ f ih =>
    obtain ⟨i1, i2, i3, i4, i5⟩ := ih
    refine ⟨fun r h => ?_, fun k pl r h => ?_, fun l r h => ?_, fun r h => ?_, fun l r h => ?_⟩
    · rw [Q.stmtF]
      split
      · exact hI.set_ h
      split
      · exact hI.fail h (by decide)
      split
      · exact i2 _ _ _ (hI.take h)
      · exact hI.simple (hI.take h) _ _
    · have hb := i4 _ (hI.head h k)
      rw [compF]
      split
      · split
        · exact i4 _ (hI.take hb)
        · exact hb
      split
      · exact i3 _ _ hb
      · exact hb
    · rw [orF]
      split
      · exact i3 _ _ (i4 _ (hI.take (hI.room h)))
      · exact h
    · rw [blockF]
      split
      · exact hI.leave (hI.must (i5 [] _ (hI.enter h)))
      · exact hI.fail h (by decide)
    · rw [stmtsF]
      split
      · exact i5 _ _ (i1 r h)
      · exact h
theorem Stable.block {I : Rd → Prop} (hI : Stable I) {r : Rd} (h : I r) : I r.block.2 := (hI.stmtF _).2.2.2.1 r h
theorem Stable.whole {I : Rd → Prop} (hI : Stable I) {r : Rd} (h : I r) : I r.whole.2 := by
  have := hI.of (hI.may h (s := [45])) (k := 2)
  unfold Rd.whole
  exact this
theorem Stable.rng {I : Rd → Prop} (hI : Stable I) {r : Rd} (h : I r) : I r.rng.2 := by
  have h1 := hI.must (hI.whole h) (s := [46, 46])
  have h2 := hI.whole h1
  unfold Rd.rng
  dsimp only
  split
  · rename_i hc
    have hc1 : (r.whole.2.must [46, 46]).code = 0 := Classical.byContradiction fun e => by
      have := hc.2
      rw [bad_whole e] at this
      exact e this
    have e : (r.whole.2.must [46, 46]).next = (r.whole.2.must [46, 46]).hd := by unfold Rd.next; rw [if_pos hc1]
    rw [e]
    exact hI.set h1 h2 hc1 hc.2
  · exact h2
theorem Stable.fin {I : Rd → Prop} (hI : Stable I) {r : Rd} (h : I r) : I r.fin.2 := hI.must (hI.whole (hI.must h))
theorem Stable.bol {I : Rd → Prop} (hI : Stable I) {r : Rd} (h : I r) : I r.bol.2 := by
  unfold Rd.bol
  split
  · exact hI.must (hI.take (hI.must h))
  · exact hI.must (hI.must (hI.must h))
theorem Stable.var {I : Rd → Prop} (hI : Stable I) {r : Rd} (h : I r) : I r.var.2 := by
  have h1 := hI.must (hI.name h) (s := [58])
  unfold Rd.var
  split
  · exact hI.bol (hI.take h1)
  split
  · exact hI.fin (hI.take h1)
  · exact hI.fin (hI.rng h1)
theorem Stable.meth {I : Rd → Prop} (hI : Stable I) {r : Rd} (h : I r) : I r.meth.2 := hI.block (hI.name h)
theorem Stable.cnt {I : Rd → Prop} (hI : Stable I) {r : Rd} (h : I r) : I r.cnt.2 := by unfold Rd.cnt; split; (exact hI.take h); (exact hI.must h)
theorem Stable.role {I : Rd → Prop} (hI : Stable I) {r : Rd} (h : I r) : I r.role.2 := hI.block (hI.cnt (hI.name h))
theorem Stable.varsF {I : Rd → Prop} (hI : Stable I) (f : Nat) : ∀ (l : List Vr) (r : Rd), I r → I (varsF f l r).2 := by
  induction f with
  | zero => exact fun l r h => h
  | succ f ih =>
    intro l r h
    rw [Q.varsF]
    split
    · exact ih _ _ (hI.var (hI.take (hI.room h)))
    · exact h
theorem Stable.methsF {I : Rd → Prop} (hI : Stable I) (f : Nat) : ∀ (l : List Mt) (r : Rd), I r → I (methsF f l r).2 := by
  induction f with
  | zero => exact fun l r h => h
  | succ f ih =>
    intro l r h
    rw [Q.methsF]
    split
    · exact ih _ _ (hI.meth (hI.take (hI.room h)))
    · exact h
theorem Stable.mon {I : Rd → Prop} (hI : Stable I) {r : Rd} (h : I r) : I r.mon.2 := by
  unfold Rd.mon
  split
  · exact hI.leave (hI.must (hI.methsF _ _ _ (hI.varsF _ _ _ (hI.enter (hI.name h)))))
  · exact hI.fail (hI.name h) (by decide)
theorem Stable.prog {I : Rd → Prop} (hI : Stable I) {r : Rd} (h : I r) : I r.prog.2 := by
  have go : ∀ (f : Nat) (l : List Mo) (k : List Ro) (r : Rd), I r → I (progF f l k r).2 := by
    intro f
    induction f with
    | zero => exact fun l k r h => h
    | succ f ih =>
      intro l k r h
      rw [progF]
      split
      · split
        · exact ih _ _ _ (hI.mon (hI.take (hI.room h)))
        split
        · exact ih _ _ _ (hI.role (hI.take (hI.room h)))
        · exact ih _ _ _ (hI.fail h (by decide))
      · exact h
  exact go _ _ _ _ h
/-- What is left is of the tokens; an error is at one of them. -/
def Within (L : List Tk) (r : Rd) : Prop := r.toks ≠ [] ∧ (∀ t ∈ r.toks, t ∈ L) ∧ (r.code ≠ 0 → ∃ t ∈ L, r.at_ = t.pl)
theorem hd_mem {r : Rd} (h : r.toks ≠ []) : r.hd ∈ r.toks := by
  unfold Rd.hd
  cases hr : r.toks with
  | nil => exact absurd hr h
  | cons t l => simp
theorem within_stable (L : List Tk) : Stable (Within L) where
  take := fun {r} h => by
    unfold Rd.take
    split
    · rename_i hc
      refine ⟨?_, fun t ht => h.2.1 t (List.mem_of_mem_tail ht), h.2.2⟩
      intro e
      have := congrArg List.length e
      simp at this; omega
    · exact h
  fail := fun {r e} h he => by
    unfold Rd.fail
    split
    · exact ⟨h.1, h.2.1, fun _ => ⟨_, h.2.1 _ (hd_mem h.1), rfl⟩⟩
    · exact h
  more := fun {r n} h => h
  set := fun {r r'} h h' _ _ => ⟨h'.1, h'.2.1, fun _ => ⟨_, h.2.1 _ (hd_mem h.1), rfl⟩⟩
end Go.Proofs.YtmflfcbebeikcaaGreat.Q

namespace Go.Proofs.YtmflfcbebeikcaaGreat.Q
open Go.RowKit
variable [Amb]

theorem is_sg {a o : Int} {t : Tk} {l : List Tk} {s0 : Str} (ht : t.sg s0) (s : Str) : (rd a o (t :: l)).is s = true ↔ s = s0 := by
  rw [rd_is]
  exact ⟨fun h => h.2.symm.trans ht.2, fun h => by rw [h]; exact ht⟩
theorem not_is {a o : Int} {t : Tk} {l : List Tk} (h1 : t.kind ≠ 3) (h2 : t.kind ≠ 4) (s : Str) : ¬ (rd a o (t :: l)).is s = true := by
  rw [rd_is]; exact fun h => by have := h.1; omega
theorem nop_sg {u : Tk} {s : Str} {l : List Tk} (hu : u.sg s) (h0 : s ∉ lvS 0) (h1 : s ∉ lvS 1) (h2 : s ∉ lvS 2) (h3 : s ∉ lvS 3) (h4 : s ∉ lvS 4) : nop 0 (u :: l) := by
  intro q _ s' hs t ht hsg
  injection ht with ht
  subst ht
  have e := hu.2.symm.trans hsg.2
  subst e
  match q, hs with
  | 0, hs => exact h0 hs
  | 1, hs => exact h1 hs
  | 2, hs => exact h2 hs
  | 3, hs => exact h3 hs
  | 4, hs => exact h4 hs
  | n + 5, hs => exact absurd hs (by simp [lvS])
theorem nop_kind {u : Tk} {l : List Tk} (h3 : u.kind ≠ 3) (h4 : u.kind ≠ 4) : nop 0 (u :: l) := by
  intro q _ s' hs t ht hsg
  injection ht with ht
  subst ht
  have := hsg.1; omega
abbrev Gs (L : Nat) (ts : List Tk) (e : Ex) (d : Nat) : Prop := ∀ (a o : Int) (rest : List Tk), 0 ≤ o → o ≤ 64 → rest ≠ [] → Tl (ts ++ rest) →
  (o + d ≤ 64 → ∃ e' : Ex, e'.er = e.er ∧ ∀ p ≤ lvOf L, GoesTo p (rd a o (ts ++ rest)) rest e' (rd a o rest)) ∧
  (64 < o + d → ∀ p ≤ lvOf L, Bad ((rd a o (ts ++ rest)).bin p).2 ts o)
/-- What no operator joins. -/
theorem goes_atom {L : Nat} {t : Tk} {us : List Tk} {e : Ex} {d : Nat} (hn : ¬ t.sg [33])
    (h : ∀ (a o : Int) (rest : List Tk), 0 ≤ o → o ≤ 64 → rest ≠ [] → Tl (t :: us ++ rest) →
      (o + d ≤ 64 → ∃ e' : Ex, e'.er = e.er ∧ (nop 4 rest → (rd a o (t :: us ++ rest)).term = (e', rd a o rest))) ∧
      (64 < o + d → Bad ((rd a o (t :: us ++ rest)).term).2 (t :: us) o)) : Gs L (t :: us) e d := by
  intro a o rest h0 h1 hr hl
  obtain ⟨g1, g2⟩ := h a o rest h0 h1 hr hl
  have hok : (rd a o (t :: us ++ rest)).ok := hl.ok h0 h1
  have hi : ¬ (rd a o (t :: us ++ rest)).is [33] = true := fun e => hn ((rd_is a o t (us ++ rest) _).1 e)
  refine ⟨fun hd => ?_, fun hd p hp => ?_⟩
  · obtain ⟨e', k1, k2⟩ := g1 hd
    refine ⟨e', k1, fun p hp => ?_⟩
    have := lvOf_le L
    exact GoesTo.down hok (hl.drop hr) h0 h1 (fun _ => hi) (4 - p) p (by omega) (Nat.le_refl _) (GoesTo.atom fun hn => by rw [Rd.bin4 hok]; exact k2 hn)
  · have := lvOf_le L
    refine Bad.down hok (fun _ => hi) (4 - p) p (by omega) (Nat.le_refl _) ?_
    rw [Rd.bin4 hok]
    exact g2 hd
theorem sg_kind {t : Tk} {s : Str} (h : t.sg s) : t.kind ≠ 1 ∧ t.kind ≠ 2 ∧ t.kind ≠ 5 := by
  have := h.1; omega
theorem goes_par {L : Nat} {t u : Tk} {ts : List Tk} {e : Ex} {d : Nat} (ht : t.sg [40]) (ih : Gs 1 ts e d) (hu : u.sg [41]) : Gs L (t :: (ts ++ [u])) e (d + 1) := by
  refine goes_atom (fun h => absurd (ht.2.symm.trans h.2) (by decide)) fun a o rest h0 h1 hr hl => ?_
  have el : t :: (ts ++ [u]) ++ rest = t :: (ts ++ (u :: rest)) := by simp
  rw [el] at hl ⊢
  have hk := sg_kind ht
  have hne : ts ++ u :: rest ≠ [] := by simp
  have hT := Rd.term_eq (hl.ok (a := a) h0 h1)
  rw [rd_next, if_neg hk.2.1, if_neg hk.1, if_neg (fun e => absurd ((is_sg ht _).1 e) (by decide)), if_pos ((is_sg ht _).2 rfl)] at hT
  have hl' := hl.tail hne
  refine ⟨fun hd => ?_, fun hd => ?_⟩
  · obtain ⟨e', k1, k2⟩ := (ih a (o + 1) (u :: rest) (by omega) (by omega) (by simp) hl').1 (by omega)
    refine ⟨e', k1, fun _ => ?_⟩
    have hv := (k2 0 (Nat.zero_le _)).val (hl'.drop (by simp)) (by omega) (by omega) (by decide) (nop_sg hu (by decide) (by decide) (by decide) (by decide) (by decide))
    rw [hT, rd_enter a t hne (by omega), hv]
    dsimp only
    rw [rd_must a (o + 1) hr hu, rd_leave]
  · rw [hT]
    by_cases h64 : 64 ≤ o
    · obtain ⟨c1, c2⟩ := rd_enter_deep a t (ts ++ u :: rest) h64
      have c0 : (rd a o (t :: (ts ++ u :: rest))).enter.code ≠ 0 := by rw [c1]; decide
      show Bad (((rd a o (t :: (ts ++ u :: rest))).enter.bin 0).2.must [41]).leave _ _
      rw [bad_bin c0, bad_must c0]
      exact ⟨c1, 0, t, rfl, c2, by omega⟩
    · have hb := (ih a (o + 1) (u :: rest) (by omega) (by omega) (by simp) hl').2 (by omega) 0 (Nat.zero_le _)
      show Bad (((rd a o (t :: (ts ++ u :: rest))).enter.bin 0).2.must [41]).leave _ _
      rw [rd_enter a t hne (by omega), bad_must hb.code]
      exact ((hb.app [u]).cons t).leave
theorem goes_neg {L : Nat} {t : Tk} {ts : List Tk} {e : Ex} {d : Nat} {pl : Int} (ht : t.sg [45]) (ih : Gs 6 ts e d) : Gs L (t :: ts) ⟨6, [], [], 0, [e], pl⟩ (d + 1) := by
  refine goes_atom (fun h => absurd (ht.2.symm.trans h.2) (by decide)) fun a o rest h0 h1 hr hl => ?_
  rw [List.cons_append] at hl ⊢
  have hk := sg_kind ht
  have hne : ts ++ rest ≠ [] := by simp [hr]
  have hT := Rd.term_eq (hl.ok (a := a) h0 h1)
  rw [rd_next, if_neg hk.2.1, if_neg hk.1, if_pos ((is_sg ht _).2 rfl)] at hT
  have hl' := hl.tail hne
  refine ⟨fun hd => ?_, fun hd => ?_⟩
  · obtain ⟨e', k1, k2⟩ := (ih a (o + 1) rest (by omega) (by omega) hr hl').1 (by omega)
    refine ⟨⟨6, [], [], 0, [e'], t.pl⟩, er_mk (by simp [k1]), fun hn => ?_⟩
    have hv := (k2 4 (by decide)).2 (.inr rfl) hn
    rw [Rd.bin4 (hl'.ok (by omega) (by omega))] at hv
    rw [hT, rd_enter a t hne (by omega), hv]
    dsimp only
    rw [rd_leave]
  · rw [hT]
    by_cases h64 : 64 ≤ o
    · obtain ⟨c1, c2⟩ := rd_enter_deep a t (ts ++ rest) h64
      have c0 : (rd a o (t :: (ts ++ rest))).enter.code ≠ 0 := by rw [c1]; decide
      show Bad ((rd a o (t :: (ts ++ rest))).enter.term.2).leave _ _
      rw [bad_term c0]
      exact ⟨c1, 0, t, rfl, c2, by omega⟩
    · have hb := (ih a (o + 1) rest (by omega) (by omega) hr hl').2 (by omega) 4 (by decide)
      rw [Rd.bin4 (hl'.ok (by omega) (by omega))] at hb
      show Bad ((rd a o (t :: (ts ++ rest))).enter.term.2).leave _ _
      rw [rd_enter a t hne (by omega)]
      exact (hb.cons t).leave
theorem goes_mul {L : Nat} {t u : Tk} {ts : List Tk} {n : Int} {e : Ex} {d : Nat} {pl : Int} (ht : t.nu n) (hu : u.sg [42]) (ih : Gs 6 ts e d) : Gs L (t :: u :: ts) ⟨7, [], [], n, [e], pl⟩ (d + 1) := by
  refine goes_atom (fun h => by have := ht.1; have := h.1; omega) fun a o rest h0 h1 hr hl => ?_
  rw [List.cons_append, List.cons_append] at hl ⊢
  have hne : ts ++ rest ≠ [] := by simp [hr]
  have hT := Rd.term_eq (hl.ok (a := a) h0 h1)
  rw [rd_next, if_pos ht.1, rd_take a o t (by simp), if_pos ((is_sg hu _).2 rfl)] at hT
  have hl1 := hl.tail (by simp)
  have hl' := hl1.tail hne
  refine ⟨fun hd => ?_, fun hd => ?_⟩
  · obtain ⟨e', k1, k2⟩ := (ih a (o + 1) rest (by omega) (by omega) hr hl').1 (by omega)
    refine ⟨⟨7, [], [], t.n, [e'], t.pl⟩, by rw [ht.2]; exact er_mk (by simp [k1]), fun hn => ?_⟩
    have hv := (k2 4 (by decide)).2 (.inr rfl) hn
    rw [Rd.bin4 (hl'.ok (by omega) (by omega))] at hv
    rw [hT, rd_enter a u hne (by omega), hv]
    dsimp only
    rw [rd_leave]
  · rw [hT]
    by_cases h64 : 64 ≤ o
    · obtain ⟨c1, c2⟩ := rd_enter_deep a u (ts ++ rest) h64
      have c0 : (rd a o (u :: (ts ++ rest))).enter.code ≠ 0 := by rw [c1]; decide
      show Bad ((rd a o (u :: (ts ++ rest))).enter.term.2).leave _ _
      rw [bad_term c0]
      exact ⟨c1, 1, u, rfl, c2, by omega⟩
    · have hb := (ih a (o + 1) rest (by omega) (by omega) hr hl').2 (by omega) 4 (by decide)
      rw [Rd.bin4 (hl'.ok (by omega) (by omega))] at hb
      show Bad ((rd a o (u :: (ts ++ rest))).enter.term.2).leave _ _
      rw [rd_enter a u hne (by omega)]
      exact ((hb.cons u).pre [t]).leave
theorem goes_num {L : Nat} {t : Tk} {n pl : Int} (ht : t.nu n) : Gs L [t] ⟨1, [], [], n, [], pl⟩ 0 := by
  refine goes_atom (fun h => by have := ht.1; have := h.1; omega) fun a o rest h0 h1 hr hl => ⟨fun hd => ?_, fun hd => by omega⟩
  have hT := Rd.term_eq (hl.ok (a := a) h0 h1)
  refine ⟨⟨1, [], [], t.n, [], t.pl⟩, by rw [ht.2]; exact er_mk rfl, fun hn => ?_⟩
  rw [List.singleton_append] at hT ⊢
  rw [rd_next, if_pos ht.1, rd_take a o t hr, if_neg] at hT
  · exact hT
  · cases rest with
    | nil => exact absurd rfl hr
    | cons u k => exact fun e => hn 4 (Nat.le_refl _) [42] (by decide) u rfl ((rd_is a o u k _).1 e)
theorem goes_tru {L : Nat} {t : Tk} {pl : Int} (ht : t.sg [116, 114, 117, 101]) : Gs L [t] ⟨2, [], [], 0, [], pl⟩ 0 := by
  refine goes_atom (fun h => absurd (ht.2.symm.trans h.2) (by decide)) fun a o rest h0 h1 hr hl => ⟨fun hd => ?_, fun hd => by omega⟩
  have hk := sg_kind ht
  have hT := Rd.term_eq (hl.ok (a := a) h0 h1)
  refine ⟨⟨2, [], [], 0, [], t.pl⟩, er_mk rfl, fun hn => ?_⟩
  rw [List.singleton_append] at hT ⊢
  rw [rd_next, if_neg hk.2.1, if_neg hk.1, if_neg (fun e => absurd ((is_sg ht _).1 e) (by decide)), if_neg (fun e => absurd ((is_sg ht _).1 e) (by decide)), if_pos ((is_sg ht _).2 rfl), rd_take a o t hr] at hT
  exact hT
theorem goes_fls {L : Nat} {t : Tk} {pl : Int} (ht : t.sg [102, 97, 108, 115, 101]) : Gs L [t] ⟨3, [], [], 0, [], pl⟩ 0 := by
  refine goes_atom (fun h => absurd (ht.2.symm.trans h.2) (by decide)) fun a o rest h0 h1 hr hl => ⟨fun hd => ?_, fun hd => by omega⟩
  have hk := sg_kind ht
  have hT := Rd.term_eq (hl.ok (a := a) h0 h1)
  refine ⟨⟨3, [], [], 0, [], t.pl⟩, er_mk rfl, fun hn => ?_⟩
  rw [List.singleton_append] at hT ⊢
  rw [rd_next, if_neg hk.2.1, if_neg hk.1, if_neg (fun e => absurd ((is_sg ht _).1 e) (by decide)), if_neg (fun e => absurd ((is_sg ht _).1 e) (by decide)), if_neg (fun e => absurd ((is_sg ht _).1 e) (by decide)), if_pos ((is_sg ht _).2 rfl), rd_take a o t hr] at hT
  exact hT
theorem goes_var {L : Nat} {t u v : Tk} {m n : Str} {pl : Int} (ht : t.nm m) (hu : u.sg [46]) (hv : v.nm n) : Gs L [t, u, v] ⟨4, m, n, 0, [], pl⟩ 0 := by
  refine goes_atom (fun h => by have := ht.1; have := h.1; omega) fun a o rest h0 h1 hr hl => ⟨fun hd => ?_, fun hd => by omega⟩
  have hT := Rd.term_eq (hl.ok (a := a) h0 h1)
  refine ⟨⟨4, m, n, 0, [], t.pl⟩, er_mk rfl, fun hn => ?_⟩
  simp only [List.cons_append, List.nil_append] at hT ⊢
  rw [rd_next, if_neg (by have := ht.1; omega), if_pos ht.1, rd_pair a o hr ht hu hv] at hT
  exact hT
theorem goes_not {L : Nat} {t : Tk} {ts : List Tk} {e : Ex} {d : Nat} {pl : Int} (hL : L ≤ 3) (ht : t.sg [33]) (ih : Gs 3 ts e d) : Gs L (t :: ts) ⟨5, [], [], 0, [e], pl⟩ (d + 1) := by
  intro a o rest h0 h1 hr hl
  rw [List.cons_append] at hl ⊢
  have hok := hl.ok (a := a) h0 h1
  have hne : ts ++ rest ≠ [] := by simp [hr]
  have hB := Rd.binNot hok ((is_sg ht _).2 rfl)
  have hl' := hl.tail hne
  have hlv : lvOf L ≤ 2 := by
    have : L = 0 ∨ L = 1 ∨ L = 2 ∨ L = 3 := by omega
    rcases this with rfl | rfl | rfl | rfl <;> decide
  refine ⟨fun hd => ?_, fun hd p hp => ?_⟩
  · obtain ⟨e', k1, k2⟩ := (ih a (o + 1) rest (by omega) (by omega) hr hl').1 (by omega)
    refine ⟨⟨5, [], [], 0, [e'], t.pl⟩, er_mk (by simp [k1]), fun p hp => ?_⟩
    refine GoesTo.down (q := 2) hok (hl'.drop hr) h0 h1 (fun h => absurd h (by decide)) (2 - p) p (by omega) (by decide) ⟨fun h => absurd rfl h, fun _ hn => ?_⟩
    have hv := (k2 2 (by decide)).2 (.inl rfl) hn
    rw [hB, rd_enter a t hne (by omega), hv]
    dsimp only
    rw [rd_leave]; rfl
  · refine Bad.down (q := 2) hok (fun h => absurd h (by decide)) (2 - p) p (by omega) (by decide) ?_
    rw [hB]
    by_cases h64 : 64 ≤ o
    · obtain ⟨c1, c2⟩ := rd_enter_deep a t (ts ++ rest) h64
      have c0 : (rd a o (t :: (ts ++ rest))).enter.code ≠ 0 := by rw [c1]; decide
      show Bad ((rd a o (t :: (ts ++ rest))).enter.bin 2).2.leave _ _
      rw [bad_bin c0]
      exact ⟨c1, 0, t, rfl, c2, by omega⟩
    · have hb := (ih a (o + 1) rest (by omega) (by omega) hr hl').2 (by omega) 2 (by decide)
      show Bad ((rd a o (t :: (ts ++ rest))).enter.bin 2).2.leave _ _
      rw [rd_enter a t hne (by omega)]
      exact (hb.cons t).leave
theorem goes_bin {L : Nat} {op : Int} {rl l r : Nat} {s : Str} {t : Tk} {ts us : List Tk} {e f : Ex} {d g : Nat} {pl : Int} (hr : (op, rl, s, l, r) ∈ rules) (hL : L ≤ rl) (h1' : DE l ts e d) (i1 : Gs l ts e d) (ht : t.sg s) (i2 : Gs r us f g) :
    Gs L (ts ++ t :: us) ⟨op, [], [], 0, [e, f], pl⟩ (max d g) := by
  obtain ⟨q3, qr, qa, qb, qm, q4, qs⟩ := rule_is hr
  intro a o rest h0 h1 hrest hl
  have el : ts ++ t :: us ++ rest = ts ++ (t :: (us ++ rest)) := by simp
  rw [el] at hl ⊢
  have hne : us ++ rest ≠ [] := by simp [hrest]
  have hl1 := hl.drop (by simp : t :: (us ++ rest) ≠ [])
  have hl2 := hl1.tail hne
  have hl3 := hl2.drop hrest
  have hok := hl.ok (a := a) h0 h1
  have hok1 := hl1.ok (a := a) h0 h1
  obtain ⟨s1, s2⟩ := qs a o t (us ++ rest) ht hne
  have hLq := qm L hL
  have hno : 3 ≤ lvOf rl → ¬ (rd a o (ts ++ t :: (us ++ rest))).is [33] = true := fun h3 e => by
    obtain ⟨t0, us0, e0, e1⟩ := h1'.head
    rw [e0] at e
    exact e1 (q4 h3) ((rd_is a o t0 _ _).1 e)
  have hno2 : lvOf rl = 2 → ¬ (rd a o (ts ++ t :: (us ++ rest))).is [33] = true := fun h2 e => by
    obtain ⟨t0, us0, e0, e1⟩ := h1'.head
    rw [e0] at e
    exact e1 (qb h2).2.1 ((rd_is a o t0 _ _).1 e)
  generalize hq : lvOf rl = q at *
  obtain ⟨a1, a2⟩ := i1 a o (t :: (us ++ rest)) h0 h1 (by simp) hl
  obtain ⟨b1, b2⟩ := i2 a o rest h0 h1 hrest hl2
  by_cases hd1 : o + d ≤ 64
  · obtain ⟨e', k1, k2⟩ := a1 hd1
    -- the way to the loop behind the left part
    have hloop : (rd a o (ts ++ t :: (us ++ rest))).bin q = (rd a o (t :: (us ++ rest))).loop q e' := by
      by_cases h2 : q = 2
      · obtain ⟨c1, c2, c3⟩ := qb h2
        have hv := (k2 3 (by omega)).val hl1 h0 h1 (by decide) (by rw [h2] at s1; exact s1)
        rw [Rd.bin_eq hok q3 (fun e => hno2 h2 e.2), h2, hv]
      · have := (qa h2).1
        exact (k2 q (by omega)).1 h2 q3 s1
    rw [Rd.loop_eq hok1 q3, s2] at hloop
    dsimp only at hloop
    rw [if_pos rfl] at hloop
    by_cases hd2 : o + g ≤ 64
    · obtain ⟨f', m1, m2⟩ := b1 hd2
      refine ⟨fun _ => ⟨⟨op, [], [], 0, [e', f'], e'.pl⟩, er_mk (by simp [k1, m1]), fun p hp => ?_⟩, fun hd => by omega⟩
      refine GoesTo.down hok hl3 h0 h1 hno (q - p) p (by omega) (by omega) ⟨fun h2 h3 hn => ?_, fun h24 hn => ?_⟩
      · have hv := (m2 (q + 1) (by omega)).val hl3 h0 h1 (by omega) hn
        rw [hloop, hv]
        dsimp only
        rw [if_neg (by rw [(qa h2).2]; decide)]
      · have h2 : q = 2 := by omega
        have hv := (m2 (q + 1) (by omega)).val hl3 h0 h1 (by omega) (hn.up (by omega))
        rw [hloop, hv]
        dsimp only
        rw [if_pos (qb h2).2.2]
    · refine ⟨fun hd => by omega, fun _ p hp => ?_⟩
      have hb := b2 (by omega) (q + 1) (by omega)
      refine Bad.down hok hno (q - p) p (by omega) (by omega) ?_
      rw [hloop]
      split
      · exact ((hb.pre [t]).pre ts)
      · rw [bad_loop hb.code]
        exact ((hb.pre [t]).pre ts)
  · refine ⟨fun hd => by omega, fun _ p hp => ?_⟩
    refine Bad.down hok hno (q - p) p (by omega) (by omega) ?_
    by_cases h2 : q = 2
    · obtain ⟨c1, c2, c3⟩ := qb h2
      have hb := a2 (by omega) 3 (by omega)
      rw [h2]
      exact (hb.lift hok (by decide) (fun _ => hno2 h2)).app _
    · have := (qa h2).1
      exact (a2 (by omega) q (by omega)).app _
/-- What is derived is parsed, or too deep. -/
theorem DE.goes {L : Nat} {ts : List Tk} {e : Ex} {d : Nat} (h : DE L ts e d) : Gs L ts e d := by
  induction h with
  | par ht h hu ih => exact goes_par ht ih hu
  | num ht => exact goes_num ht
  | tru ht => exact goes_tru ht
  | fls ht => exact goes_fls ht
  | var ht hu hv => exact goes_var ht hu hv
  | neg ht h ih => exact goes_neg ht ih
  | mul ht hu h ih => exact goes_mul ht hu ih
  | not hL ht h ih => exact goes_not hL ht ih
  | bin hr hL h1 ht h2 i1 i2 => exact goes_bin hr hL h1 i1 ht i2
/-- An expression that is derived, and what is behind it goes on with none of it. -/
theorem DE.expr {ts : List Tk} {e : Ex} {d : Nat} (h : DE 1 ts e d) (a : Int) {o : Int} {rest : List Tk} (h0 : 0 ≤ o) (h1 : o ≤ 64) (hr : rest ≠ []) (hl : Tl (ts ++ rest)) (hn : nop 0 rest) :
    (o + d ≤ 64 → ∃ e' : Ex, e'.er = e.er ∧ (rd a o (ts ++ rest)).expr = (e', rd a o rest)) ∧ (64 < o + d → Bad (rd a o (ts ++ rest)).expr.2 ts o) := by
  obtain ⟨g1, g2⟩ := h.goes a o rest h0 h1 hr hl
  refine ⟨fun hd => ?_, fun hd => g2 hd 0 (Nat.zero_le _)⟩
  obtain ⟨e', k1, k2⟩ := g1 hd
  exact ⟨e', k1, (k2 0 (Nat.zero_le _)).val (hl.drop hr) h0 h1 (by decide) hn⟩
end Go.Proofs.YtmflfcbebeikcaaGreat.Q

namespace Go.Proofs.YtmflfcbebeikcaaGreat.Q
open Go.RowKit
variable [Amb]

theorem Tl.ne {l : List Tk} (h : Tl l) : l ≠ [] := by obtain ⟨k, t, e, _⟩ := h.last; rw [e]; simp
theorem Tl.more {t : Tk} {l : List Tk} (h : Tl (t :: l)) (hk : t.kind ≠ 5) : l ≠ [] := by
  rintro rfl
  obtain ⟨k, u, e, h5⟩ := h.last
  cases k with
  | nil => injection e with e; rw [e] at hk; exact hk h5
  | cons x k => injection e with _ e; simp at e
theorem Tl.next {t : Tk} {l : List Tk} (h : Tl (t :: l)) (hk : t.kind ≠ 5) : Tl l := h.tail (h.more hk)
theorem fail_code {a o : Int} {l : List Tk} {e : Int} : ((rd a o l).fail e).code = e := by unfold Rd.fail; rw [if_pos rfl]
theorem must_inv {a o : Int} {l : List Tk} {s : Str} (hl : Tl l) (h : ((rd a o l).must s).code = 0) : ∃ t rest, l = t :: rest ∧ t.sg s ∧ Tl rest ∧ (rd a o l).must s = rd a o rest := by
  cases l with
  | nil => exact absurd rfl hl.ne
  | cons t rest =>
    by_cases hi : (rd a o (t :: rest)).is s = true
    · have ht := (rd_is a o t rest s).1 hi
      have hr := hl.next (sg_kind ht).2.2
      exact ⟨t, rest, rfl, ht, hr, rd_must a o hr.ne ht⟩
    · unfold Rd.must at h
      rw [if_neg hi, fail_code] at h
      exact absurd h (by decide)
theorem of_inv {a o : Int} {l : List Tk} {k : Int} (hl : Tl l) (hk0 : k ≠ 0) (hk5 : k ≠ 5) (h : ((rd a o l).of k).2.code = 0) : ∃ t rest, l = t :: rest ∧ t.kind = k ∧ Tl rest ∧ (rd a o l).of k = (t, rd a o rest) := by
  cases l with
  | nil => exact absurd rfl hl.ne
  | cons t rest =>
    by_cases hi : t.kind = k
    · have hr := hl.next (by rw [hi]; exact hk5)
      exact ⟨t, rest, rfl, hi, hr, rd_of a o hr.ne hi⟩
    · exfalso
      unfold Rd.of Rd.want at h
      rw [rd_next, if_neg hi] at h
      have hb : ((rd a o (t :: rest)).fail 40).code ≠ 0 := by rw [fail_code]; decide
      rw [bad_take hb] at h
      exact hb h
theorem name_inv {a o : Int} {l : List Tk} (hl : Tl l) (h : (rd a o l).name.2.code = 0) : ∃ t rest, l = t :: rest ∧ t.kind = 1 ∧ Tl rest ∧ (rd a o l).name = ((t.text, t.pl), rd a o rest) := by
  obtain ⟨t, rest, h1, h2, h3, h4⟩ := of_inv (k := 1) hl (by decide) (by decide) h
  exact ⟨t, rest, h1, h2, h3, by unfold Rd.name; rw [h4]⟩
/-- What is no error at the end was none ahead. -/
theorem code_of {r r' : Rd} (h : r.code ≠ 0 → r' = r) (h' : r'.code = 0) : r.code = 0 := Classical.byContradiction fun e => by rw [h e] at h'; exact e h'
theorem pair_inv {a o : Int} {l : List Tk} (hl : Tl l) (h : (rd a o l).pair.2.code = 0) : ∃ t u v rest, l = t :: u :: v :: rest ∧ t.kind = 1 ∧ u.sg [46] ∧ v.kind = 1 ∧ Tl rest ∧ (rd a o l).pair = ((t.text, v.text), rd a o rest) := by
  have h3 : ((rd a o l).name.2.must [46]).name.2.code = 0 := h
  have h2 := code_of (fun e => by rw [bad_name e]) h3
  have h1 : (rd a o l).name.2.code = 0 := code_of (fun e => bad_must e _) h2
  obtain ⟨t, r1, rfl, t1, l1, e1⟩ := name_inv hl h1
  rw [e1] at h2 h3
  obtain ⟨u, r2, rfl, t2, l2, e2⟩ := must_inv l1 h2
  dsimp only at h3
  rw [e2] at h3
  obtain ⟨v, r3, rfl, t3, l3, e3⟩ := name_inv l2 h3
  exact ⟨t, u, v, r3, rfl, t1, t2, t3, l3, rd_pair a o l3.ne ⟨t1, rfl⟩ t2 ⟨t3, rfl⟩⟩
theorem oper_inv {r : Rd} : ∀ {L : List (Str × Int)}, (r.oper L).1.2 = true → ∃ p ∈ L, r.is p.1 = true ∧ r.oper L = ((p.2, true), r.take)
  | [], h => by cases h
  | p :: L, h => by
    by_cases hi : r.is p.1 = true
    · exact ⟨p, by simp, hi, by rw [Rd.oper, if_pos hi]⟩
    · rw [Rd.oper, if_neg hi] at h ⊢
      obtain ⟨q, h1, h2, h3⟩ := oper_inv h
      exact ⟨q, List.mem_cons_of_mem _ h1, h2, h3⟩
theorem oper_false {r : Rd} : ∀ {L : List (Str × Int)}, ¬ (r.oper L).1.2 = true → r.oper L = ((0, false), r)
  | [], h => rfl
  | p :: L, h => by
    by_cases hi : r.is p.1 = true
    · rw [Rd.oper, if_pos hi] at h; exact absurd rfl h
    · rw [Rd.oper, if_neg hi] at h ⊢; exact oper_false h
/-- The grammar's level. -/
def lvL : Nat → Nat
  | 0 => 1
  | 1 => 2
  | 2 => 3
  | 3 => 5
  | _ => 6
def loL : Nat → Nat
  | 0 => 1
  | 1 => 2
  | _ => 5
theorem lvl_rules : ∀ q : Nat, q ≤ 3 → ∀ p ∈ lvl q, ∃ rl, (p.2, rl, p.1, loL q, lvL (q + 1)) ∈ rules ∧ lvL q ≤ rl
  | 0, _ => fun p hp => ⟨1, by
      simp only [lvl, lvls, List.getD_cons_succ, List.getD_cons_zero, List.mem_cons, List.not_mem_nil, or_false] at hp
      subst hp; decide, by decide⟩
  | 1, _ => fun p hp => ⟨2, by
      simp only [lvl, lvls, List.getD_cons_succ, List.getD_cons_zero, List.mem_cons, List.not_mem_nil, or_false] at hp
      subst hp; decide, by decide⟩
  | 2, _ => fun p hp => ⟨4, by
      simp only [lvl, lvls, List.getD_cons_succ, List.getD_cons_zero, List.mem_cons, List.not_mem_nil, or_false] at hp
      rcases hp with rfl | rfl | rfl | rfl | rfl | rfl <;> decide, by decide⟩
  | 3, _ => fun p hp => ⟨5, by
      simp only [lvl, lvls, List.getD_cons_succ, List.getD_cons_zero, List.mem_cons, List.not_mem_nil, or_false] at hp
      rcases hp with rfl | rfl <;> decide, by decide⟩
  | n + 4, h => by omega
/-- What the parser gives at a level, it having read some tokens ahead. -/
abbrev Der (L : Nat) (ts0 : List Tk) (a o : Int) (l : List Tk) (q : Ex × Rd) : Prop := ∃ ts rest d, l = ts ++ rest ∧ Tl rest ∧ q.2 = rd a o rest ∧ DE L (ts0 ++ ts) q.1 d ∧ o + d ≤ 64
abbrev Sound (n : Nat) : Prop := ∀ (p : Nat) (a o : Int) (l : List Tk), p ≤ 4 → l.length = n → 0 ≤ o → o ≤ 64 → Tl l → ((rd a o l).bin p).2.code = 0 → Der (lvL p) [] a o l ((rd a o l).bin p)
theorem sound_loop {n : Nat} (ih : ∀ m < n, Sound m) (p : Nat) (hp : p ≤ 3) : ∀ (k : Nat) (a o : Int) (l : List Tk) (ts0 : List Tk) (e : Ex) (d0 : Nat), l.length = k → k < n → 0 ≤ o → o ≤ 64 → Tl l → DE (loL p) ts0 e d0 → o + d0 ≤ 64 →
    ((rd a o l).loop p e).2.code = 0 → Der (lvL p) ts0 a o l ((rd a o l).loop p e) := by
  intro k
  induction k using Nat.strongRecOn with
  | _ k ihk =>
    intro a o l ts0 e d0 hlk hk h0 h1 hl hd ho hc
    have hle := Rd.loop_eq (hl.ok (a := a) h0 h1) hp e
    by_cases hop : ((rd a o l).oper (lvl p)).1.2 = true
    · obtain ⟨pr, hpm, hi, he⟩ := oper_inv hop
      cases l with
      | nil => exact absurd rfl hl.ne
      | cons t l1 =>
        have ht := (rd_is a o t l1 _).1 hi
        have hl1 := hl.next (sg_kind ht).2.2
        rw [rd_take a o t hl1.ne] at he
        obtain ⟨rl, hrl, hlv⟩ := lvl_rules p hp pr hpm
        rw [he] at hle
        dsimp only at hle
        rw [if_pos rfl] at hle
        have hlen : l1.length < k := by rw [← hlk]; simp
        have hcb : ((rd a o l1).bin (p + 1)).2.code = 0 := by
          rw [hle] at hc
          split at hc
          · exact hc
          · exact code_of (fun e => by rw [bad_loop e]) hc
        obtain ⟨ts, rest, d, e1, e2, e3, e4, e5⟩ := ih l1.length (by omega) (p + 1) a o l1 (by omega) rfl h0 h1 hl1 hcb
        rw [List.nil_append] at e4
        have hb : DE (lvL p) (ts0 ++ t :: ts) ⟨pr.2, [], [], 0, [e, ((rd a o l1).bin (p + 1)).1], e.pl⟩ (max d0 d) := .bin hrl hlv hd ht e4
        split at hle
        · rw [hle]
          exact ⟨t :: ts, rest, max d0 d, by rw [e1]; rfl, e2, e3, hb, by omega⟩
        · rename_i hno
          rw [e3] at hle
          rw [hle] at hc ⊢
          have hlo : loL p = lvL p := by
            have : p = 0 ∨ p = 1 ∨ p = 2 ∨ p = 3 := by omega
            rcases this with rfl | rfl | rfl | rfl
            · rfl
            · rfl
            · exact absurd rfl hno
            · rfl
          have hln : rest.length < k := by rw [e1] at hlen; rw [List.length_append] at hlen; omega
          obtain ⟨us, rest', d', f1, f2, f3, f4, f5⟩ := ihk rest.length hln a o rest (ts0 ++ t :: ts) _ (max d0 d) rfl (by omega) h0 h1 e2 (by rw [hlo]; exact hb) (by omega) hc
          exact ⟨t :: ts ++ us, rest', d', by rw [e1, f1]; simp, f2, f3, by rw [List.append_assoc] at f4; exact f4, f5⟩
    · rw [if_neg hop, oper_false hop] at hle
      rw [hle]
      refine ⟨[], l, d0, rfl, hl, rfl, ?_, ho⟩
      rw [List.append_nil]
      refine hd.mono ?_
      have : p = 0 ∨ p = 1 ∨ p = 2 ∨ p = 3 := by omega
      rcases this with rfl | rfl | rfl | rfl <;> decide
theorem enter_inv {a o : Int} {t : Tk} {l : List Tk} (hl : l ≠ []) {r' : Rd} (h : (rd a o (t :: l)).enter.code ≠ 0 → r' = (rd a o (t :: l)).enter) (hc : r'.code = 0) : o < 64 ∧ (rd a o (t :: l)).enter = rd a (o + 1) l := by
  have hc' := code_of h hc
  by_cases h64 : 64 ≤ o
  · have := (rd_enter_deep a t l h64).1; omega
  · exact ⟨by omega, rd_enter a t hl (by omega)⟩
theorem rd_leave' {r : Rd} {a o : Int} {l : List Tk} (h : r = rd a (o + 1) l) : r.leave = rd a o l := by rw [h, rd_leave]
theorem sound_term {n : Nat} (ih : ∀ m < n, Sound m) (a o : Int) (l : List Tk) (hn : l.length = n) (h0 : 0 ≤ o) (h1 : o ≤ 64) (hl : Tl l) (hc : (rd a o l).term.2.code = 0) : Der 6 [] a o l (rd a o l).term := by
  have hT := Rd.term_eq (hl.ok (a := a) h0 h1)
  cases l with
  | nil => exact absurd rfl hl.ne
  | cons t l1 =>
  rw [List.length_cons] at hn
  rw [rd_next] at hT
  by_cases hk2 : t.kind = 2
  · have hl1 := hl.next (by omega)
    rw [if_pos hk2, rd_take a o t hl1.ne] at hT
    by_cases hs : (rd a o l1).is [42] = true
    · rw [if_pos hs] at hT
      cases l1 with
      | nil => exact absurd rfl hl1.ne
      | cons u l2 =>
        rw [List.length_cons] at hn
        have hu := (rd_is a o u l2 _).1 hs
        have hl2 := hl1.next (sg_kind hu).2.2
        rw [hT] at hc ⊢
        have hc' : (rd a o (u :: l2)).enter.term.2.code = 0 := hc
        obtain ⟨h64, he⟩ := enter_inv hl2.ne (fun e => bad_term e) hc'
        rw [he, ← Rd.bin4 (hl2.ok (by omega) (by omega))] at hc' ⊢
        obtain ⟨ts, rest, d, e1, e2, e3, e4, e5⟩ := ih l2.length (by omega) 4 a (o + 1) l2 (by decide) rfl (by omega) (by omega) hl2 hc'
        exact ⟨t :: u :: ts, rest, d + 1, by rw [e1]; rfl, e2, rd_leave' e3, .mul ⟨hk2, rfl⟩ hu e4, by omega⟩
    · rw [if_neg hs] at hT
      rw [hT]
      exact ⟨[t], l1, 0, rfl, hl1, rfl, .num ⟨hk2, rfl⟩, by omega⟩
  rw [if_neg hk2] at hT
  by_cases hk1 : t.kind = 1
  · rw [if_pos hk1] at hT
    rw [hT] at hc ⊢
    obtain ⟨t', u, v, rest, e0, t1, t2, t3, e2, e3⟩ := pair_inv hl hc
    injection e0 with e0 e0'
    subst e0
    rw [e3]
    exact ⟨[t, u, v], rest, 0, by rw [e0']; rfl, e2, rfl, .var ⟨t1, rfl⟩ t2 ⟨t3, rfl⟩, by omega⟩
  rw [if_neg hk1] at hT
  by_cases hs : (rd a o (t :: l1)).is [45] = true
  · rw [if_pos hs] at hT
    have ht := (rd_is a o t l1 _).1 hs
    have hl1 := hl.next (sg_kind ht).2.2
    rw [hT] at hc ⊢
    have hc' : (rd a o (t :: l1)).enter.term.2.code = 0 := hc
    obtain ⟨h64, he⟩ := enter_inv hl1.ne (fun e => bad_term e) hc'
    rw [he, ← Rd.bin4 (hl1.ok (by omega) (by omega))] at hc' ⊢
    obtain ⟨ts, rest, d, e1, e2, e3, e4, e5⟩ := ih l1.length (by omega) 4 a (o + 1) l1 (by decide) rfl (by omega) (by omega) hl1 hc'
    exact ⟨t :: ts, rest, d + 1, by rw [e1]; rfl, e2, rd_leave' e3, .neg ht e4, by omega⟩
  rw [if_neg hs] at hT
  by_cases hs : (rd a o (t :: l1)).is [40] = true
  · rw [if_pos hs] at hT
    have ht := (rd_is a o t l1 _).1 hs
    have hl1 := hl.next (sg_kind ht).2.2
    rw [hT] at hc ⊢
    have hc' : ((rd a o (t :: l1)).enter.bin 0).2.code = 0 := code_of (fun e => bad_must e _) hc
    obtain ⟨h64, he⟩ := enter_inv hl1.ne (fun e => bad_bin e _) hc'
    have hc2 : (((rd a o (t :: l1)).enter.bin 0).2.must [41]).code = 0 := hc
    rw [he] at hc' hc2 ⊢
    obtain ⟨ts, rest, d, e1, e2, e3, e4, e5⟩ := ih l1.length (by omega) 0 a (o + 1) l1 (by decide) rfl (by omega) (by omega) hl1 hc'
    rw [e3] at hc2
    obtain ⟨u, rest', g1, g2, g3, g4⟩ := must_inv e2 hc2
    refine ⟨t :: (ts ++ [u]), rest', d + 1, by rw [e1, g1]; simp, g3, ?_, .par ht e4 g2, by omega⟩
    dsimp only
    rw [e3, g4, rd_leave]
  rw [if_neg hs] at hT
  by_cases hs : (rd a o (t :: l1)).is [116, 114, 117, 101] = true
  · rw [if_pos hs] at hT
    have ht := (rd_is a o t l1 _).1 hs
    have hl1 := hl.next (sg_kind ht).2.2
    rw [rd_take a o t hl1.ne] at hT
    rw [hT]
    exact ⟨[t], l1, 0, rfl, hl1, rfl, .tru ht, by omega⟩
  rw [if_neg hs] at hT
  by_cases hs : (rd a o (t :: l1)).is [102, 97, 108, 115, 101] = true
  · rw [if_pos hs] at hT
    have ht := (rd_is a o t l1 _).1 hs
    have hl1 := hl.next (sg_kind ht).2.2
    rw [rd_take a o t hl1.ne] at hT
    rw [hT]
    exact ⟨[t], l1, 0, rfl, hl1, rfl, .fls ht, by omega⟩
  rw [if_neg hs] at hT
  rw [hT] at hc
  have hc : ((rd a o (t :: l1)).fail 40).code = 0 := hc
  rw [fail_code] at hc
  exact absurd hc (by decide)
theorem DE.ne {L : Nat} {ts : List Tk} {e : Ex} {d : Nat} (h : DE L ts e d) : 0 < ts.length := by
  obtain ⟨t, us, e, _⟩ := h.head; rw [e]; simp
theorem sound (n : Nat) : Sound n := by
  induction n using Nat.strongRecOn with
  | _ n ih =>
    intro p a o l hp hn h0 h1 hl hc
    have key : ∀ k p, p + k = 4 → ((rd a o l).bin p).2.code = 0 → Der (lvL p) [] a o l ((rd a o l).bin p) := by
      intro k
      induction k with
      | zero =>
        intro p hpk hc
        have : p = 4 := by omega
        subst this
        rw [Rd.bin4 (hl.ok h0 h1)] at hc ⊢
        exact sound_term ih a o l hn h0 h1 hl hc
      | succ k ihk =>
        intro p hpk hc
        by_cases hno : p = 2 ∧ (rd a o l).is [33] = true
        · obtain ⟨rfl, hi⟩ := hno
          have hB := Rd.binNot (hl.ok h0 h1) hi
          cases l with
          | nil => exact absurd rfl hl.ne
          | cons t l1 =>
          rw [List.length_cons] at hn
          have ht := (rd_is a o t l1 _).1 hi
          have hl1 := hl.next (sg_kind ht).2.2
          rw [hB] at hc ⊢
          have hc' : ((rd a o (t :: l1)).enter.bin 2).2.code = 0 := hc
          obtain ⟨h64, he⟩ := enter_inv hl1.ne (fun e => bad_bin e _) hc'
          rw [he] at hc' ⊢
          obtain ⟨ts, rest, d, e1, e2, e3, e4, e5⟩ := ih l1.length (by omega) 2 a (o + 1) l1 (by decide) rfl (by omega) (by omega) hl1 hc'
          exact ⟨t :: ts, rest, d + 1, by rw [e1]; rfl, e2, rd_leave' e3, .not (by decide) ht e4, by omega⟩
        · have hB := Rd.bin_eq (hl.ok (a := a) h0 h1) (by omega) hno
          rw [hB] at hc
          have hc1 := code_of (fun e => by rw [bad_loop e]) hc
          obtain ⟨ts, rest, d, e1, e2, e3, e4, e5⟩ := ihk (p + 1) (by omega) hc1
          rw [List.nil_append] at e4
          rw [hB]
          rw [e3] at hc ⊢
          have hlen := e4.ne
          have hln : l.length = ts.length + rest.length := by rw [e1, List.length_append]
          have hlo : loL p ≤ lvL (p + 1) := by
            have : p = 0 ∨ p = 1 ∨ p = 2 ∨ p = 3 := by omega
            rcases this with rfl | rfl | rfl | rfl <;> decide
          obtain ⟨us, rest', d', f1, f2, f3, f4, f5⟩ := sound_loop ih p (by omega) rest.length a o rest ts _ d rfl (by omega) h0 h1 e2 (e4.mono hlo) e5 hc
          exact ⟨ts ++ us, rest', d', by rw [e1, f1]; simp, f2, f3, f4, f5⟩
    exact key (4 - p) p (by omega) hc
/-- What is parsed is derived. -/
theorem expr_sound {a o : Int} {l : List Tk} (h0 : 0 ≤ o) (h1 : o ≤ 64) (hl : Tl l) (hc : (rd a o l).expr.2.code = 0) : ∃ ts rest d, l = ts ++ rest ∧ Tl rest ∧ (rd a o l).expr.2 = rd a o rest ∧ DE 1 ts (rd a o l).expr.1 d ∧ o + d ≤ 64 :=
  sound l.length 0 a o l (by decide) rfl h0 h1 hl hc
end Go.Proofs.YtmflfcbebeikcaaGreat.Q
