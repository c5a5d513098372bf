/- Expressions as texts. No condition. -/
import Derived.Test.YtblnfodnkacbbaaGreatDoorME
import Derived.Test.YtblnfodnkacbbaaGreatDoorMC
import Derived.Shelf.Strings.Search1
import Derived.Shelf.Strconv.Itoa4
import Derived.KernelRfl
import Derived.Test.YtblnfodnkacbbaaGreatDoorProg
import Derived.Test.YtblnfodnkacbbaaGreatDoorMF
import Derived.Test.YtblnfodnkacbbaaGreatDoorMA
import Derived.Lib.FrozenHead2
import Derived.Lib.AppendStr
import Derived.Lib.Builder
import Derived.Lib.FrozenHead
import Derived.Lib.UnsafeStr
import Derived.WalkKit
set_option linter.unusedVariables false
set_option linter.unusedSectionVars false
set_option linter.unnecessarySimpa false
set_option linter.unusedSimpArgs false
set_option maxRecDepth 100000
set_option maxHeartbeats 4000000
namespace Go.Proofs
open Go.RowKit Go.Lib
theorem YtblnfodnkacbbaaGreatDoor.slIndexByte_w (s : ByteArray) (c : Int) (w : World) :
    Calls Tryz.prog 180 #[.string s, .int .u8 c] w fun e w' => e = .returned (.int .i64 (Lib.indexByte s.data.toList c.toNat.toUInt8)) ∧ w' = w := by
  go_enter Tryz.func180, Tryz.ntmps180
  go_wp2
  rw [run_callFunc_extern Tryz.func216 (by kernel_rfl) (by kernel_rfl) (by kernel_rfl) (e := Extern.BytealgIndexByte.indexByte) (by kernel_rfl), Lib.run_indexByteString]
  simp only [Result.andThen]
  rw [Oper.upon_value]
  go_wp2
  go_ret
  exact ⟨rfl, rfl⟩
end Go.Proofs
namespace Go.Proofs.YtblnfodnkacbbaaGreatDoor.Q
open Go.RowKit
variable [Amb]
/-- A contract of the kit's, as one over pure values. -/
theorem PFun.ofCalls {P : Program} {f : FuncId} {args : List V} {r : V} {vs : List Value} {v : Value} (hf : ∃ fn, P.funcs[f]? = some fn ∧ (fn.name == "runtime.NumGoroutine") = false ∧ fn.body.isNone = false)
    (ha : ∀ G φ us, repVs G φ args us → us = vs) (hr : ∀ G φ, r.rep G φ v) (c : ∀ w, Calls P f vs.toArray w fun e w' => e = .returned v ∧ w' = w) : PFun P f args [] r [] :=
  ⟨hf, fun G w φ us hs hu => by
    rw [ha G φ us hu]
    refine (c w).mono ?_
    rintro e w' ⟨e1, rfl⟩
    exact ⟨v, r, [], G, φ, e1, ⟨rfl, rfl⟩, Nat.le_refl _, hs, Goes.refl _ _ _ _, hr G φ⟩⟩
theorem slIndexByte_c (s : Str) (c : Int) : PFun Tryz.prog 180 [sv' s, .d (.int .u8 c)] [] (iv (Lib.indexByte s c.toNat.toUInt8)) [] := by
  refine PFun.ofCalls (vs := [.string ⟨s.toArray⟩, .int .u8 c]) (v := .int .i64 (Lib.indexByte s c.toNat.toUInt8)) ⟨_, Tryz.func180, by kernel_rfl, by kernel_rfl⟩ ?_ (fun _ _ => rfl) (fun w => ?_)
  · rintro G φ us ⟨u, us', rfl, h1, u2, us2, rfl, h2, h3⟩
    have h1 : u = _ := h1
    have h2 : u2 = _ := h2
    have h3 : us2 = [] := h3
    rw [h1, h2, h3]
  · have := YtblnfodnkacbbaaGreatDoor.slIndexByte_w ⟨s.toArray⟩ c w
    simpa using this
theorem indexByte_c (s : Str) (c : Int) : PFun Tryz.prog 281 [sv' s, .d (.int .u8 c)] [] (iv (Lib.indexByte s c.toNat.toUInt8)) [] := by
  refine fn_sem pok 8 0 Tryz.func281 (by kernel_rfl) rfl rfl rfl rfl ?_
  refine SWp.go pok (by kernel_rfl) ?_
  exact PFun.call (slIndexByte_c s c) ⟨rfl, rfl⟩
/-- The signs. -/
def signs : Str := [123, 125, 40, 41, 59, 58, 61, 60, 62, 43, 45, 42, 33, 46, 38, 124]
/-- What a byte may begin: 0: nothing, 1: a blank, 2: a note, 3: a letter, 4: a digit, 5: a sign. -/
def classS (c : Int) : Int :=
  if c = 32 then 1 else if c = 9 then 1 else if c = 13 then 1 else if c = 10 then 1 else if c = 35 then 2 else
  if 97 ≤ c ∧ c ≤ 122 then 3 else if 65 ≤ c ∧ c ≤ 90 then 3 else if 48 ≤ c ∧ c ≤ 57 then 4 else if 0 ≤ Lib.indexByte signs c.toNat.toUInt8 then 5 else 0
theorem classOf_c (c : Int) : PFun Tryz.prog 271 [.d (.int .u8 c)] [] (iv (classS c)) [] := by
  refine fn_sem pok 41 0 Tryz.func271 (by kernel_rfl) rfl rfl rfl rfl ?_
  refine SWp.go pok (by kernel_rfl) ?_
  repeat' (refine brP_split (fun h => ?_) (fun h => ?_))
  all_goals first
    | refine PFun.call (indexByte_c signs c) ?_
      refine brP_split (fun h => ?_) (fun h => ?_)
    | skip
  all_goals
    refine fin1 (dint ?_)
    unfold classS
    simp only [beq_iff_eq, beq_eq_false_iff_ne, ne_eq, decide_eq_true_eq, decide_eq_false_iff_not] at *
    repeat' split
    all_goals first | rfl | omega
def inNameS (c : Int) : Bool := (classS c == 3) || (classS c == 4) || (c == 95)
theorem inName_c (c : Int) : PFun Tryz.prog 274 [.d (.int .u8 c)] [] (.d (.bool (inNameS c))) [] := by
  refine fn_sem pok 16 0 Tryz.func274 (by kernel_rfl) rfl rfl rfl rfl ?_
  refine SWp.go pok (by kernel_rfl) ?_
  refine PFun.call (classOf_c c) ?_
  repeat' (refine brP_split (fun h => ?_) (fun h => ?_))
  all_goals
    refine fin1 (dbool ?_)
    unfold inNameS
    simp only [*, Bool.true_or, Bool.or_true, Bool.false_or, Bool.or_false]
/-- Where a row of bytes of a kind ends. -/
def spanF (p : Int → Bool) : Nat → Str → Nat
  | k, [] => k
  | k, b :: r => if p b.toNat = true then spanF p (k + 1) r else k
theorem spanF_at (p : Int → Bool) {l : Str} {k : Nat} (h : k < l.length) : spanF p k (l.drop k) = if p l[k].toNat = true then spanF p (k + 1) (l.drop (k + 1)) else k := by rw [List.drop_eq_getElem_cons h]; rfl
def words : List Str := [[109, 111, 110, 105, 116, 111, 114], [118, 97, 114], [109, 101, 116, 104, 111, 100], [116, 104, 114, 101, 97, 100], [98, 111, 111, 108], [105, 110, 116], [116, 114, 117, 101], [102, 97, 108, 115, 101], [115, 107, 105, 112], [105, 102],
  [101, 108, 115, 101], [119, 104, 105, 108, 101], [108, 111, 111, 112], [99, 104, 111, 111, 115, 101], [111, 114], [115, 121, 110, 99], [99, 97, 108, 108], [119, 97, 105, 116], [110, 111, 116, 105, 102, 121], [110, 111, 116, 105, 102, 121, 97, 108, 108]]
def isWord (s : Str) : Bool := words.any fun w => s == w
theorem word_c (s : Str) : PFun Tryz.prog 272 [sv' s] [] (.d (.bool (isWord s))) [] := by
  refine fn_sem pok 25 0 Tryz.func272 (by kernel_rfl) rfl rfl rfl rfl ?_
  refine SWp.go pok (by kernel_rfl) ?_
  repeat' (refine brP_split (fun h => ?_) (fun h => ?_))
  all_goals
    refine fin1 (dbool ?_)
    simp only [isWord, words, List.any, *, Bool.true_or, Bool.or_true, Bool.false_or, Bool.or_false]
theorem span_c (g : FuncId) (p : Int → Bool) (hg : ∀ c : Int, PFun Tryz.prog g [.d (.int .u8 c)] [] (.d (.bool (p c))) []) (s : Str) (a : Nat) (ha : a ≤ s.length) (hs : s.length < 1073741824) :
    PFun Tryz.prog 273 [sv' s, iv a, .fn (.func g) [] []] [] (iv (spanF p a (s.drop a))) [] := by
  refine fn_sem pok 21 0 Tryz.func273 (by kernel_rfl) rfl rfl rfl rfl ?_
  refine SWp.go pok (by kernel_rfl) ?_
  refine SWp.loop (fun k : Nat => a ≤ k ∧ k ≤ s.length ∧ spanF p k (s.drop k) = spanF p a (s.drop a)) (fun k => ([(0, sv' s), (1, iv k), (2, .fn (.func g) [] [])], [])) (fun k => s.length - k) a ⟨Nat.le_refl _, ha, rfl⟩ (Le.same ⟨rfl, rfl, rfl, trivial⟩) (fun k hk => ?_)
  obtain ⟨hak, hj, hk⟩ := hk
  refine SWp.go pok (by kernel_rfl) ?_
  refine brP_split (fun h => ?_) (fun h => ?_)
  · have hlt : k < s.length := by simpa using h
    have hat := spanF_at p hlt
    refine PIdx.at (get_at hlt) ?_
    refine PFun.call (hg _) ?_
    refine brP_split (fun h3 => ?_) (fun h3 => ?_)
    · exact ⟨k + 1, ⟨by omega, hlt, by rw [← hk, hat, if_pos h3]⟩, by omega, Le.same ⟨rfl, sint (wrap_nat k (by omega)), rfl, trivial⟩⟩
    · exact fin1 (dint (by rw [← hk, hat, if_neg (by rw [h3]; simp)]))
  · have hk' : s.drop k = [] := List.drop_of_length_le (by simp at h; omega)
    have hl : k = s.length := by simp at h; omega
    exact fin1 (dint (by rw [← hk, hk']; rfl))
end Go.Proofs.YtblnfodnkacbbaaGreatDoor.Q

namespace Go.Proofs
open Go.Shelf
def Tryz.lays173_ren : Go.Shelf.Ren := ⟨fun | 173 => 166 | 246 => 128 | 283 => 173 | 284 => 174 | 285 => 175 | 286 => 176 | 129 => 212 | 317 => 211 | 318 => 213 | 319 => 214 | 320 => 215 | 337 => 239 | 338 => 240 | n => n, fun | 2 => 2 | 3 => 3 | 9 => 9 | 4 => 4 | 171 => 272 | 0 => 0 | 53 => 174 | 37 => 162 | 5 => 5 | 173 => 275 | 212 => 314 | 51 => 315 | 20 => 20 | 213 => 316 | 46 => 280 | 232 => 360 | 233 => 361 | n => n, fun | 17 => 3 | 18 => 6 | 19 => 7 | n => n⟩
theorem Tryz.lays173 : LaysM.n173 Tryz.prog Tryz.lays173_ren where
  mixed := by kernel_rfl
  f129 := Tryz.func212.trans (congrArg some (by kernel_rfl))
  f173 := Tryz.func166.trans (congrArg some (by kernel_rfl))
  f246 := Tryz.func128.trans (congrArg some (by kernel_rfl))
  f283 := Tryz.func173.trans (congrArg some (by kernel_rfl))
  f284 := Tryz.func174.trans (congrArg some (by kernel_rfl))
  f285 := Tryz.func175.trans (congrArg some (by kernel_rfl))
  f286 := Tryz.func176.trans (congrArg some (by kernel_rfl))
  f317 := Tryz.func211.trans (congrArg some (by kernel_rfl))
  f318 := Tryz.func213.trans (congrArg some (by kernel_rfl))
  f319 := Tryz.func214.trans (congrArg some (by kernel_rfl))
  f320 := Tryz.func215.trans (congrArg some (by kernel_rfl))
  f337 := Tryz.func239.trans (congrArg some (by kernel_rfl))
  f338 := Tryz.func240.trans (congrArg some (by kernel_rfl))
  t0 := Tryz.underlying0
  a0 := Tryz.isAgg0
  z0 := Tryz.sizeOf0
  v0 := Tryz.zeroValue0
  t2 := Tryz.underlying2
  a2 := Tryz.isAgg2
  z2 := Tryz.sizeOf2
  v2 := Tryz.zeroValue2
  t3 := Tryz.underlying3
  a3 := Tryz.isAgg3
  z3 := Tryz.sizeOf3
  v3 := Tryz.zeroValue3
  t4 := Tryz.underlying4
  a4 := Tryz.isAgg4
  z4 := Tryz.sizeOf4
  v4 := Tryz.zeroValue4
  t5 := Tryz.underlying5
  a5 := Tryz.isAgg5
  z5 := Tryz.sizeOf5
  v5 := Tryz.zeroValue5
  t9 := Tryz.underlying9
  a9 := Tryz.isAgg9
  z9 := Tryz.sizeOf9
  v9 := Tryz.zeroValue9
  t20 := Tryz.underlying20
  a20 := Tryz.isAgg20
  z20 := Tryz.sizeOf20
  v20 := Tryz.zeroValue20
  t37 := Tryz.underlying162
  a37 := Tryz.isAgg162
  z37 := Tryz.sizeOf162
  v37 := Tryz.zeroValue162
  t46 := Tryz.underlying280
  a46 := Tryz.isAgg280
  z46 := Tryz.sizeOf280
  v46 := Tryz.zeroValue280
  t51 := Tryz.underlying315
  a51 := Tryz.isAgg315
  z51 := Tryz.sizeOf315
  v51 := Tryz.zeroValue315
  t53 := Tryz.underlying174
  a53 := Tryz.isAgg174
  z53 := Tryz.sizeOf174
  v53 := Tryz.zeroValue174
  t171 := Tryz.underlying272
  a171 := Tryz.isAgg272
  z171 := Tryz.sizeOf272
  v171 := Tryz.zeroValue272
  t173 := Tryz.underlying275
  a173 := Tryz.isAgg275
  z173 := Tryz.sizeOf275
  v173 := Tryz.zeroValue275
  t212 := Tryz.underlying314
  a212 := Tryz.isAgg314
  z212 := Tryz.sizeOf314
  v212 := Tryz.zeroValue314
  t213 := Tryz.underlying316
  a213 := Tryz.isAgg316
  z213 := Tryz.sizeOf316
  t232 := Tryz.underlying360
  a232 := Tryz.isAgg360
  z232 := Tryz.sizeOf360
  v232 := Tryz.zeroValue360
  t233 := Tryz.underlying361
  a233 := Tryz.isAgg361
  z233 := Tryz.sizeOf361
  v233 := Tryz.zeroValue361
  g17 := by kernel_rfl
  g18 := by kernel_rfl
  g19 := by kernel_rfl
  i0 := by kernel_rfl
  i2 := by kernel_rfl
  i3 := by kernel_rfl
  i4 := by kernel_rfl
  i5 := by kernel_rfl
  i9 := by kernel_rfl
  i20 := by kernel_rfl
  i37 := by kernel_rfl
  i46 := by kernel_rfl
  i51 := by kernel_rfl
  i53 := by kernel_rfl
  i171 := by kernel_rfl
  i173 := by kernel_rfl
  i212 := by kernel_rfl
  i232 := by kernel_rfl
  i233 := by kernel_rfl
  m17 := by kernel_rfl
  m18 := by kernel_rfl
  m19 := by kernel_rfl
theorem Tryz.formatInt (n : Int) (h0 : -9223372036854775808 ≤ n) (h1 : n ≤ 9223372036854775807) (w : World) (htab : Lib.TabIs Tryz.prog w "internal/strconv.uint64pow10" .u64 Lib.pow10Tab) :
    Calls Tryz.prog 166 #[.int .i64 n, .int .i64 10] w fun e w' => e = .returned (.string ⟨(Lib.itoa n).toArray⟩) ∧ ∃ k os, w' = Sort.grow (w.drewN k) os := Any.strconv_FormatInt_10 Tryz.lays173 n h0 h1 w htab
end Go.Proofs

namespace Go.Proofs.YtblnfodnkacbbaaGreatDoor.Q
open Go.RowKit
/-- The table of powers of ten is among the blocks that never change. -/
class Pow [Amb] : Prop where
  tab : ∃ b, Tryz.prog.globalNamed "internal/strconv.uint64pow10" = some b ∧ (b, Lib.pow10Tab.map (Value.int .u64)) ∈ Amb.tabs
variable [Amb]
section
variable [Pow]
theorem pow_is {G : Imm} {w : World} (h : Inv G w) : Lib.TabIs Tryz.prog w "internal/strconv.uint64pow10" .u64 Lib.pow10Tab := by
  obtain ⟨b, h1, h2⟩ := Pow.tab
  obtain ⟨_, ⟨T, fr, h3⟩, _⟩ := h.2 _ h2
  unfold Lib.TabIs World.var?
  rw [h1]
  show (match w.heap[b]? with
    | some (.cells cs _ _) => some cs
    | _ => none) = _
  rw [h3]
theorem Sit.growN {G : Imm} {w : World} {φ : Loc} {Hx : Hp} (hs : Sit G w φ Hx) (k : Nat) (os : Array Obj) : Sit G (Sort.grow (w.drewN k) os) φ Hx ∧ Goes G w φ Hx G (Sort.grow (w.drewN k) os) φ Hx := hs.below (below_grow w k os)
theorem formatInt_c (n : Int) (hn : R64 n) : PFun Tryz.prog 166 [iv n, iv 10] [] (sv' (Lib.itoa n)) [] := by
  refine ⟨⟨_, Tryz.func166, by kernel_rfl, by kernel_rfl⟩, fun G w φ us hs hu => ?_⟩
  obtain ⟨v0, vs, rfl, hv0, v1, vs1, rfl, hv1, hvs⟩ := hu
  have hv0 : v0 = .int .i64 n := hv0
  have hv1 : v1 = .int .i64 10 := hv1
  have hvs : vs1 = [] := hvs
  subst hv0; subst hv1; subst hvs
  refine (Tryz.formatInt n hn.1 hn.2 w (pow_is hs.inv)).mono ?_
  rintro e w' ⟨rfl, k, os, rfl⟩
  obtain ⟨g1, g2⟩ := hs.growN k os
  exact ⟨_, _, _, G, φ, rfl, ⟨rfl, rfl⟩, Nat.le_refl _, g1, g2, rfl⟩
end
instance powOf [Vars] : Pow := ⟨Vars.pow⟩
end Go.Proofs.YtblnfodnkacbbaaGreatDoor.Q

namespace Go.Proofs.YtblnfodnkacbbaaGreatDoor.Q
open Go.Lib
variable {P : Program}
theorem add_zero' (b o : Nat) : (⟨b, o, none⟩ : Addr).add 0 = ⟨b, o, none⟩ := by unfold Addr.add; split <;> simp_all
theorem size_zero {s : ByteArray} (h : s.size = 0) : s = ByteArray.empty := by
  cases s with
  | mk d =>
    have h : d.size = 0 := h
    rw [Array.eq_empty_of_size_eq_zero h]; rfl
theorem ownsF_less {w : World} {base : Nat} {e : TypeId} {n : Nat} {v : Value} {xs : List Value} (h : w.ownsRowF base e 1 v n xs) : w.ownsRowF 0 e 1 v n xs := by
  refine ⟨h.1, ?_⟩
  rcases h.2 with hn | ⟨g, cap, cur, fz, hv, hb, rest⟩
  · exact .inl hn
  · exact .inr ⟨g, cap, cur, fz, hv, Nat.zero_le _, rest⟩
theorem ownsF_same {w w' : World} {e : TypeId} {n : Nat} {v : Value} {xs : List Value} (h : w.ownsRowF 0 e 1 v n xs) (k : ∀ g, v.ownBlock = some g → w'.heap[g]? = w.heap[g]?) : w'.ownsRowF 0 e 1 v n xs := by
  refine ⟨h.1, ?_⟩
  rcases h.2 with hn | ⟨g, cap, cur, fz, hv, hb, hg, rest⟩
  · exact .inl hn
  · exact .inr ⟨g, cap, cur, fz, hv, hb, by rw [k g (by rw [hv]; rfl)]; exact hg, rest⟩
/-- A text behind a row. -/
theorem app_str (w : World) (t u ty e : TypeId) (i : TypeInfo) (ht : P.underlying t = some (.slice e)) (hu : P.underlying u = some .string) (hi : P.info? e = some i) (hz : i.zero = some (.int .u8 0)) (hsize : i.size = 1) (hby : i.bytes = 1)
    (v : Value) (n : Nat) (xs : List Value) (hown : w.ownsRowF 0 e 1 v n xs) (s : ByteArray) (h63 : n + s.size ≤ maxLen) (hbytes : n + s.size ≤ 140737488355328) (hnil : n = 0 → v = .slice none 0 0) :
    ∃ v' w', (Builtin.append_ #[t, u] ty #[v, .string s]).run P w = .ok v' w' ∧ w'.ownsRowF 0 e 1 v' (n + s.size) (xs ++ strCells s) ∧ w.grownBy w' v.ownBlock ∧ (∀ g, v'.ownBlock = some g → v.ownBlock = some g ∨ w.heap.size ≤ g) ∧ (n + s.size = 0 → v' = .slice none 0 0) := by
  rcases hown.2 with ⟨rfl, rfl⟩ | ⟨g, cap, cur, fz, rfl, hbg, hg, hfz, hnc, hcm, hcs, htake⟩
  · obtain ⟨v', w', h1, h2, h3, h4⟩ := run_append_own_stringF (P := P) w w.heap.size t u ty e i ht hu hi hz hsize hby (.slice none 0 0) 0 xs ⟨hown.1, .inl ⟨rfl, rfl⟩⟩ s h63 hbytes (Nat.le_refl _)
    exact ⟨v', w', h1, ownsF_less h2, h3, fun g hg => .inr (h2.lt g hg).1, fun e => h4.2 ⟨rfl, by omega⟩⟩
  · obtain ⟨v', w', h1, h2, h3, _⟩ := run_append_own_stringF (P := P) w 0 t u ty e i ht hu hi hz hsize hby _ n xs hown s h63 hbytes (Nat.zero_le _)
    refine ⟨v', w', h1, h2, h3, fun k hk => ?_, fun e => by have := hnil (by omega); cases this⟩
    by_cases hroom : n + s.size ≤ cap
    · have hr := run_append_room_stringF (P := P) w t u ty e i ht hu hi hsize g n cap cur fz hg (by omega) s hroom (by omega)
      rw [hr] at h1; injection h1 with h1 _; subst h1
      exact .inl hk
    · have hxl : xs.length = n := by simpa using hown.1
      have hsm : n + s.size ≤ 9223372036854775807 := by simp only [maxLen] at h63; omega
      have hr := run_append_grow_string (P := P) w t u ty e i (.int .u8 0) ht hu hi hz ⟨g, 0, none⟩ n cap xs (by rw [hsize]; omega) (hown.cells (g := g) rfl) s (by omega) (by omega) (by rw [hby]; exact growslice_fits (by omega) (by omega))
      rw [hr] at h1; injection h1 with h1 _; subst h1
      injection hk with hk
      exact .inr (Nat.le_of_eq hk)
/-- A byte behind a row. -/
theorem app_byte (w : World) (t ty e : TypeId) (i : TypeInfo) (ht : P.underlying t = some (.slice e)) (hi : P.info? e = some i) (hz : i.zero = some (.int .u8 0)) (hsize : i.size = 1) (hby : i.bytes = 1)
    (v : Value) (n : Nat) (xs : List Value) (hown : w.ownsRowF 0 e 1 v n xs) (a : Addr) (x : Value) (hx : w.cell? (a.add 0) = some x) (h1 : x.oneCell' = true) (h63 : n + 1 ≤ maxLen) (hbytes : n + 1 ≤ 140737488355328) :
    ∃ v' w', (Builtin.append_ #[t, t] ty #[v, .slice (some a) 1 1]).run P w = .ok v' w' ∧ w'.ownsRowF 0 e 1 v' (n + 1) (xs ++ [x]) ∧ w.grownBy w' v.ownBlock ∧ ∀ g, v'.ownBlock = some g → v.ownBlock = some g ∨ w.heap.size ≤ g := by
  have hnews : ∀ j u, [x][j]? = some u → w.cell? (a.add j) = some u := fun j u hj => by
    cases j with
    | zero => injection hj with hj; subst hj; exact hx
    | succ j => simp at hj
  have h1' : ∀ u ∈ [x], u.oneCell' = true := fun u hu => by simp at hu; subst hu; exact h1
  rcases hown.2 with ⟨rfl, rfl⟩ | ⟨g, cap, cur, fz, rfl, hbg, hg, hfz, hnc, hcm, hcs, htake⟩
  · obtain ⟨v', w', k1, k2, k3, _⟩ := run_append_ownF (P := P) w w.heap.size t ty e i (.int .u8 0) 1 1 ht hi hz hsize hby rfl (by decide) (.slice none 0 0) 0 xs ⟨hown.1, .inl ⟨rfl, rfl⟩⟩ a 1 1 [x] rfl hnews h1' h63 (by omega) (Nat.le_refl _)
    exact ⟨v', w', k1, ownsF_less k2, k3, fun g hg => .inr (k2.lt g hg).1⟩
  · obtain ⟨v', w', k1, k2, k3, _⟩ := run_append_ownF (P := P) w 0 t ty e i (.int .u8 0) 1 1 ht hi hz hsize hby rfl (by decide) _ n xs hown a 1 1 [x] rfl hnews h1' h63 (by omega) (Nat.zero_le _)
    refine ⟨v', w', k1, k2, k3, fun k hk => ?_⟩
    by_cases hroom : n + 1 ≤ cap
    · have hr := run_append_roomF (P := P) w t ty e i ht hi g n cap cur fz hg (by rw [hsize]; exact hfz) a 1 1 [x] (by rw [hsize]; rfl) hnews h1' hroom (by rw [hsize]; simp; omega)
      rw [hr] at k1; injection k1 with k1 _; subst k1
      exact .inl hk
    · have hsm : n + 1 ≤ 9223372036854775807 := by simp only [maxLen] at h63; omega
      have hr := run_append_grow (P := P) w t ty e i (.int .u8 0) ht hi hz ⟨g, 0, none⟩ n cap xs (by rw [hsize]; exact hown.1) (hown.cells (g := g) rfl) a 1 1 [x] (by rw [hsize]; rfl) hnews (by omega) (by omega) (by rw [hby]; exact growslice_fits (by omega) (by omega))
      rw [hr] at k1; injection k1 with k1 _; subst k1
      injection hk with hk
      exact .inr (Nat.le_of_eq hk)
theorem wp_app_str (w : World) {ops : Array Oper} {rest : List Oper} {o : Oper} {a : Act} {Q : Exit → Act → World → Prop} (hgd : o.guard = none) (sl x : Operand) (t u : TypeId) (ho : o.op = .call { callee := .builtin .append, args := #[sl, x], argTypes := #[t, u] })
    (e : TypeId) (i : TypeInfo) (ht : P.underlying t = some (.slice e)) (hu : P.underlying u = some .string) (hi : P.info? e = some i) (hz : i.zero = some (.int .u8 0)) (hsize : i.size = 1) (hby : i.bytes = 1)
    (v : Value) (n : Nat) (xs : List Value) (hs : a.eval sl = v) (hown : w.ownsRowF 0 e 1 v n xs) (s : ByteArray) (hx : a.eval x = .string s) (h63 : n + s.size ≤ maxLen) (hbytes : n + s.size ≤ 140737488355328) (hnil : n = 0 → v = .slice none 0 0)
    (h : ∀ v' w', w'.ownsRowF 0 e 1 v' (n + s.size) (xs ++ strCells s) → w.grownBy w' v.ownBlock → (∀ g, v'.ownBlock = some g → v.ownBlock = some g ∨ w.heap.size ≤ g) → (n + s.size = 0 → v' = .slice none 0 0) → wpList P ops Q rest (a.put o.dst v') w') : wpList P ops Q (o :: rest) a w := by
  refine wpList_plain hgd fun K hK => ?_
  obtain ⟨v', w', hr, h2, h3, h4, h5⟩ := app_str (P := P) w t u o.type e i ht hu hi hz hsize hby v n xs hown s h63 hbytes hnil
  unfold Oper.wp execOp
  simp only [ho, resolve, invoke, builtin, Sem.run_bind, Sem.run_pure, Result.andThen_ok, List.map_toArray, List.map_cons, List.map_nil, hs, hx, hr]
  exact hK _ _ (h v' w' h2 h3 h4 h5)
theorem wp_app_byte (w : World) {ops : Array Oper} {rest : List Oper} {o : Oper} {a : Act} {Q : Exit → Act → World → Prop} (hgd : o.guard = none) (sl x : Operand) (t : TypeId) (ho : o.op = .call { callee := .builtin .append, args := #[sl, x], argTypes := #[t, t] })
    (e : TypeId) (i : TypeInfo) (ht : P.underlying t = some (.slice e)) (hi : P.info? e = some i) (hz : i.zero = some (.int .u8 0)) (hsize : i.size = 1) (hby : i.bytes = 1)
    (v : Value) (n : Nat) (xs : List Value) (hs : a.eval sl = v) (hown : w.ownsRowF 0 e 1 v n xs) (ad : Addr) (y : Value) (hx : a.eval x = .slice (some ad) 1 1) (hy : w.cell? (ad.add 0) = some y) (h1 : y.oneCell' = true) (h63 : n + 1 ≤ maxLen) (hbytes : n + 1 ≤ 140737488355328)
    (h : ∀ v' w', w'.ownsRowF 0 e 1 v' (n + 1) (xs ++ [y]) → w.grownBy w' v.ownBlock → (∀ g, v'.ownBlock = some g → v.ownBlock = some g ∨ w.heap.size ≤ g) → wpList P ops Q rest (a.put o.dst v') w') : wpList P ops Q (o :: rest) a w := by
  refine wpList_plain hgd fun K hK => ?_
  obtain ⟨v', w', hr, h2, h3, h4⟩ := app_byte (P := P) w t o.type e i ht hi hz hsize hby v n xs hown ad y hy h1 h63 hbytes
  unfold Oper.wp execOp
  simp only [ho, resolve, invoke, builtin, Sem.run_bind, Sem.run_pure, Result.andThen_ok, List.map_toArray, List.map_cons, List.map_nil, hs, hx, hr]
  exact hK _ _ (h v' w' h2 h3 h4)
/-- A row that is frozen as far as it is written. -/
theorem froze (w : World) (g n cap : Nat) (e : TypeId) (cur : Array Value) (fz : Nat × Nat) (xs : List Value) (h0 : n ≠ 0) (hg : w.heap[g]? = some (.cells cur e fz)) (hown : w.ownsRowF 0 e 1 (.slice (some ⟨g, 0, none⟩) n cap) n xs) :
    (w.freeze ⟨g, 0, none⟩ n).ownsRowF 0 e 1 (.slice (some ⟨g, 0, none⟩) n cap) n xs ∧ ∀ k, k ≠ g → (w.freeze ⟨g, 0, none⟩ n).heap[k]? = w.heap[k]? := by
  unfold World.freeze
  rw [if_neg h0]
  refine ⟨⟨hown.1, ?_⟩, fun k hk => ?_⟩
  · rcases hown.2 with ⟨hv, _⟩ | ⟨g', cap', cur', fz', hv, hbg, hg', hfz, rest⟩
    · cases hv
    · injection hv with ha _ hcap
      injection ha with ha; injection ha with hgg _ _
      subst hgg; subst hcap
      obtain ⟨lo, hi⟩ := fz'
      refine .inr ⟨g, _, cur', (if lo == hi then (0, 0 + n) else (min lo 0, max hi (0 + n))), rfl, hbg, ?_, ?_, rest⟩
      · simp only [Array.getElem?_modify, if_true, hg', Option.map_some]
      · simp only at hfz
        split
        · show 0 + n ≤ n * 1; omega
        · show max hi (0 + n) ≤ n * 1; omega
  · simp only [Array.getElem?_modify]
    rw [if_neg (fun e => hk e.symm)]
end Go.Proofs.YtblnfodnkacbbaaGreatDoor.Q

namespace Go.Proofs
open Go.RowKit
theorem YtblnfodnkacbbaaGreatDoor.info_bld : ∃ j, Tryz.prog.info? 164 = some j ∧ j.size ≠ 0 := by
  have h : (Tryz.prog.info? 164).map (·.size) = some 2 := by kernel_rfl
  obtain ⟨j, h1, h2⟩ := Option.map_eq_some_iff.1 h
  exact ⟨j, h1, by rw [h2]; decide⟩
theorem YtblnfodnkacbbaaGreatDoor.cells_get {w : World} {b : Nat} {cs : List Value} {T : TypeId} {fr : Nat × Nat} (hb : w.heap[b]? = some (.cells cs.toArray T fr)) (j : Nat) : w.cell? ⟨b, j, none⟩ = cs[j]? := by
  simp [World.cell?, hb]
theorem YtblnfodnkacbbaaGreatDoor.copyUsed_w (b : Nat) (w : World) (h0 : w.cell? ⟨b, 0, none⟩ = some (.pointer (some ⟨b, 0, none⟩))) :
    Calls Tryz.prog 129 #[.pointer (some ⟨b, 0, none⟩)] w fun e w' => e = .returned (.tuple #[]) ∧ w' = w := by
  obtain ⟨j, hj, _⟩ := YtblnfodnkacbbaaGreatDoor.info_bld
  go_enter Tryz.func129, Tryz.ntmps129
  go_wp2
  rw [Lib.run_neq_ptr_same w _ Tryz.underlying161 hj]
  go_wp2
  go_end0
  exact ⟨rfl, rfl⟩
theorem YtblnfodnkacbbaaGreatDoor.copyFresh_w (b : Nat) (w : World) (T : TypeId) (n : Nat) (hT : liesAt Tryz.prog Tryz.prog.depth T (n / Tryz.prog.cellsOf T) 0 164 1 = true) (hn : 0 < n) (h0 : w.cell? ⟨b, 0, none⟩ = some (.pointer none)) (hsh : w.shape? b = some (T, n)) (hfz : w.frozen? ⟨b, 0, none⟩ = false) :
    Calls Tryz.prog 129 #[.pointer (some ⟨b, 0, none⟩)] w fun e w' => e = .returned (.tuple #[]) ∧ w' = w.setCell ⟨b, 0, none⟩ (.pointer (some ⟨b, 0, none⟩)) := by
  obtain ⟨j, hj, hjs⟩ := YtblnfodnkacbbaaGreatDoor.info_bld
  go_enter Tryz.func129, Tryz.ntmps129
  go_wp2
  rw [Lib.run_to_unsafe w ⟨b, 0, none⟩ Tryz.underlying161 Tryz.underlying277 hj hjs hsh hn]
  simp only [Result.andThen]
  rw [Oper.upon_value]
  go_wp2
  rw [run_callFunc_extern Tryz.func177 (by kernel_rfl) (by kernel_rfl) (by kernel_rfl) (e := Extern.AbiNoEscape.same) (by kernel_rfl)]
  rw [Lib.run_noEscape]
  simp only [Result.andThen]
  rw [Oper.upon_value]
  go_wp2
  rw [Lib.run_from_unsafe w ⟨b, 0, none⟩ Tryz.underlying277 Tryz.underlying161 hj hsh hT]
  simp only [Result.andThen]
  rw [Oper.upon_value]
  go_wp2
  go_end0
  exact ⟨rfl, rfl⟩
/-- A builder's cells, perhaps of a struct that it is the head of. -/
abbrev YtblnfodnkacbbaaGreatDoor.BW (w : World) (b : Nat) (p v : Value) (us : List Value) (T : TypeId) : Prop := w.heap[b]? = some (.cells (p :: v :: us).toArray T (0, 0))
/-- copyCheck, whether the builder was used or not. -/
theorem YtblnfodnkacbbaaGreatDoor.copy_w (b : Nat) (w : World) (used : Bool) (v : Value) (us : List Value) (T : TypeId) (hb : YtblnfodnkacbbaaGreatDoor.BW w b (match used with | true => .pointer (some ⟨b, 0, none⟩) | false => .pointer none) v us T) (hT : liesAt Tryz.prog Tryz.prog.depth T ((us.length + 2) / Tryz.prog.cellsOf T) 0 164 1 = true) :
    Calls Tryz.prog 129 #[.pointer (some ⟨b, 0, none⟩)] w fun e w' => e = .returned (.tuple #[]) ∧ YtblnfodnkacbbaaGreatDoor.BW w' b (.pointer (some ⟨b, 0, none⟩)) v us T ∧ (w'.os = w.os ∧ w'.tape = w.tape ∧ w'.output = w.output ∧ w'.heap.size = w.heap.size) ∧ ∀ k, k ≠ b → w'.heap[k]? = w.heap[k]? := by
  cases used with
  | true =>
    refine (YtblnfodnkacbbaaGreatDoor.copyUsed_w b w (by rw [YtblnfodnkacbbaaGreatDoor.cells_get hb]; rfl)).mono ?_
    rintro e w' ⟨rfl, rfl⟩
    exact ⟨rfl, hb, ⟨rfl, rfl, rfl, rfl⟩, fun _ _ => rfl⟩
  | false =>
    refine (YtblnfodnkacbbaaGreatDoor.copyFresh_w b w T (us.length + 2) hT (by omega) (by rw [YtblnfodnkacbbaaGreatDoor.cells_get hb]; rfl) (by simp [World.shape?, hb]) (by simp [World.frozen?, hb])).mono ?_
    rintro e w' ⟨rfl, rfl⟩
    refine ⟨rfl, ?_, ⟨rfl, rfl, rfl, by simp [World.setCell]⟩, fun k hk => ?_⟩
    · simp [YtblnfodnkacbbaaGreatDoor.BW, World.setCell, Array.getElem?_modify, hb]
    · simp [World.setCell, Array.getElem?_modify, fun e => hk (Eq.symm e)]
      intro e; exact absurd e.symm hk
theorem YtblnfodnkacbbaaGreatDoor.info_byte : ∃ i, Tryz.prog.info? 5 = some i ∧ i.zero = some (.int .u8 0) ∧ i.size = 1 ∧ i.bytes = 1 := by
  have h : (Tryz.prog.info? 5).map (fun i => (i.zero, i.size, i.bytes)) = some (some (.int .u8 0), 1, 1) := by kernel_rfl
  obtain ⟨i, h1, h2⟩ := Option.map_eq_some_iff.1 h
  injection h2 with a b; injection b with b c
  exact ⟨i, h1, a, b, c⟩
/-- What a writing method leaves of a builder. -/
structure YtblnfodnkacbbaaGreatDoor.Wrote (w w' : World) (b : Nat) (v : Value) (us : List Value) (T : TypeId) (xs : List Value) (n : Nat) : Prop where
  bw : ∃ v', YtblnfodnkacbbaaGreatDoor.BW w' b (.pointer (some ⟨b, 0, none⟩)) v' us T ∧ w'.ownsRowF 0 5 1 v' n xs ∧ v'.ownBlock ≠ some b ∧ (∀ g, v'.ownBlock = some g → v.ownBlock = some g ∨ w.heap.size ≤ g) ∧ (n = 0 → v' = .slice none 0 0)
  os : w'.os = w.os
  tape : w'.tape = w.tape
  output : w'.output = w.output
  size : w.heap.size ≤ w'.heap.size
  block : ∀ k, k < w.heap.size → k ≠ b → v.ownBlock ≠ some k → w'.heap[k]? = w.heap[k]?
theorem YtblnfodnkacbbaaGreatDoor.bw_lt {w : World} {b : Nat} {p v : Value} {us : List Value} {T : TypeId} (h : YtblnfodnkacbbaaGreatDoor.BW w b p v us T) : b < w.heap.size := (Array.getElem?_eq_some_iff.1 h).1
theorem YtblnfodnkacbbaaGreatDoor.wrStr_w (b : Nat) (w : World) (used : Bool) (v : Value) (us : List Value) (T : TypeId) (s : ByteArray) (n : Nat) (xs : List Value) (hb : YtblnfodnkacbbaaGreatDoor.BW w b (match used with | true => .pointer (some ⟨b, 0, none⟩) | false => .pointer none) v us T) (hT : liesAt Tryz.prog Tryz.prog.depth T ((us.length + 2) / Tryz.prog.cellsOf T) 0 164 1 = true)
    (hown : w.ownsRowF 0 5 1 v n xs) (hne : v.ownBlock ≠ some b) (hlen : n + s.size ≤ 140737488355328) (hnil : n = 0 → v = .slice none 0 0) :
    Calls Tryz.prog 78 #[.pointer (some ⟨b, 0, none⟩), .string s] w fun e w' => e = .returned (.tuple #[.int .i64 s.size, .nilIface]) ∧ YtblnfodnkacbbaaGreatDoor.Wrote w w' b v us T (xs ++ Lib.strCells s) (n + s.size) := by
  obtain ⟨i0, hi, hz0, hz1, hz2⟩ := YtblnfodnkacbbaaGreatDoor.info_byte
  go_enter Tryz.func78, Tryz.ntmps78
  go_wp2_with (go_at_call 129; refine (YtblnfodnkacbbaaGreatDoor.copy_w b _ used v us T hb hT).mono ?_)
  rintro e w1 ⟨rfl, h1, ⟨o1, o2, o3, o4⟩, hk1⟩
  have hown1 := Q.ownsF_same hown (w' := w1) fun g hg => hk1 g (fun e => hne (e ▸ hg))
  have c0 : w1.cell? ⟨b, 0, none⟩ = some (.pointer (some ⟨b, 0, none⟩)) := by rw [YtblnfodnkacbbaaGreatDoor.cells_get h1]; rfl
  have c1 : w1.cell? ⟨b, 1, none⟩ = some v := by rw [YtblnfodnkacbbaaGreatDoor.cells_get h1]; rfl
  have hlt1 := YtblnfodnkacbbaaGreatDoor.bw_lt h1
  go_wp2_with (at_builtin; refine Q.wp_app_str _ rfl _ _ 162 9 rfl 5 i0 Tryz.underlying162 Tryz.underlying9 hi hz0 hz1 hz2 _ _ _ rfl hown1 s rfl ?c3 ?c4 hnil ?_)
  case c3 => unfold maxLen; omega
  case c4 => omega
  intro v' w2 hown' hgrow hfr hnil'
  have hb2 : YtblnfodnkacbbaaGreatDoor.BW w2 b (.pointer (some ⟨b, 0, none⟩)) v us T := (hgrow.block b hlt1 (fun e => hne e.symm)).trans h1
  have d0 : w2.cell? ⟨b, 0, none⟩ = some (.pointer (some ⟨b, 0, none⟩)) := by rw [YtblnfodnkacbbaaGreatDoor.cells_get hb2]; rfl
  have d1 : w2.cell? ⟨b, 1, none⟩ = some v := by rw [YtblnfodnkacbbaaGreatDoor.cells_get hb2]; rfl
  have f1 : w2.frozen? ⟨b, 1, none⟩ = false := by simp [World.frozen?, hb2]
  have hv' : v'.ownBlock ≠ some b := fun e => by
    rcases hfr b e with h | h
    · exact hne h
    · omega
  obtain ⟨ao, n', cap, rfl⟩ : ∃ ao n' cap, v' = .slice ao n' cap := by
    rcases hown'.2 with ⟨hv, _⟩ | ⟨g, cap, cur, fz, hv, _⟩
    · exact ⟨_, _, _, hv⟩
    · exact ⟨_, _, _, hv⟩
  go_wp2
  go_ret2
  refine ⟨rfl, ⟨⟨_, ?_, Q.ownsF_same hown' fun g hg => ?_, hv', fun g hg => ?_, fun e => hnil' (by omega) (Q.size_zero (by omega))⟩, hgrow.os.trans o1, hgrow.tape.trans o2, hgrow.output.trans o3, ?_, fun k hk hkb hkv => ?_⟩⟩
  · simp [YtblnfodnkacbbaaGreatDoor.BW, World.setCell, Array.getElem?_modify, hb2]
  · simp only [World.setCell, Array.getElem?_modify]
    rw [if_neg (fun e => hv' (by rw [hg]; exact congrArg some e.symm))]
  · rcases hfr g hg with h | h
    · exact .inl h
    · exact .inr (by omega)
  · have := hgrow.size; simp [World.setCell]; omega
  · simp only [World.setCell, Array.getElem?_modify]
    rw [if_neg (fun e => hkb e.symm), hgrow.block k (by omega) (fun e => hkv e.symm), hk1 k hkb]
theorem YtblnfodnkacbbaaGreatDoor.string_w (b : Nat) (w : World) (p v : Value) (us : List Value) (T : TypeId) (l : List UInt8) (hb : YtblnfodnkacbbaaGreatDoor.BW w b p v us T)
    (hown : w.ownsRowF 0 5 1 v l.length (Lib.byteCells l)) (hne : v.ownBlock ≠ some b) (hnil : l = [] → v = .slice none 0 0) :
    Calls Tryz.prog 79 #[.pointer (some ⟨b, 0, none⟩)] w fun e w' => e = .returned (.string ⟨l.toArray⟩) ∧ YtblnfodnkacbbaaGreatDoor.BW w' b p v us T ∧ w'.ownsRowF 0 5 1 v l.length (Lib.byteCells l) ∧
      (w'.os = w.os ∧ w'.tape = w.tape ∧ w'.output = w.output ∧ w'.heap.size = w.heap.size) ∧ ∀ k, v.ownBlock ≠ some k → w'.heap[k]? = w.heap[k]? := by
  by_cases h0 : l = []
  · subst h0
    have hv := hnil rfl
    subst hv
    have c1 : w.drew.cell? ⟨b, 1, none⟩ = some (.slice none 0 0) := by
      have hb' : w.drew.heap[b]? = some (.cells (p :: Value.slice none 0 0 :: us).toArray T (0, 0)) := hb
      rw [YtblnfodnkacbbaaGreatDoor.cells_get hb']; rfl
    have hSD : (Builtin.unsafeSliceData_ #[162] 226 #[.slice none 0 0]).run Tryz.prog w.drew = .ok (.pointer none) w.drew := rfl
    have hUS := Lib.run_unsafeString_none (P := Tryz.prog) (w := w.drew) 226 3 9 none
    go_enter Tryz.func79, Tryz.ntmps79
    go_wp2
    go_region
    all_goals
      go_wp2
      go_ret
      exact ⟨rfl, hb, hown, ⟨rfl, rfl, rfl, rfl⟩, fun _ _ => rfl⟩
  · have hl0 : l.length ≠ 0 := by simpa using h0
    obtain ⟨g, cap, cur, fz, hv, _, hg, hfz, hnc, hcm, hcs, htake⟩ : ∃ g cap cur fz, v = .slice (some ⟨g, 0, none⟩) l.length cap ∧ 0 ≤ g ∧ w.heap[g]? = some (.cells cur 5 fz) ∧ fz.2 ≤ l.length * 1 ∧ l.length ≤ cap ∧ cap ≤ maxLen ∧ cur.size = cap * 1 ∧ cur.toList.take (l.length * 1) = Lib.byteCells l := by
      rcases hown.2 with ⟨_, hz⟩ | h
      · exact absurd hz hl0
      · exact h
    subst hv
    have c1 : w.drew.cell? ⟨b, 1, none⟩ = some (.slice (some ⟨g, 0, none⟩) l.length cap) := by
      have hb' : w.drew.heap[b]? = some (.cells (p :: Value.slice (some ⟨g, 0, none⟩) l.length cap :: us).toArray T (0, 0)) := hb
      rw [YtblnfodnkacbbaaGreatDoor.cells_get hb']; rfl
    have hSD : (Builtin.unsafeSliceData_ #[162] 226 #[.slice (some ⟨g, 0, none⟩) l.length cap]).run Tryz.prog w.drew = .ok (.pointer (some ⟨g, 0, none⟩)) w.drew := Lib.run_unsafeSliceData_row _ _ _ _ _ _ (by omega)
    have hgd : w.drew.heap[g]? = some (.cells cur 5 fz) := hg
    have hUS : (Builtin.unsafeString_ #[226, 3] 9 #[.pointer (some ⟨g, 0, none⟩), .int .i64 l.length]).run Tryz.prog w.drew = .ok (.string ⟨l.toArray⟩) (w.drew.freeze ⟨g, 0, none⟩ l.length) := by
      refine Lib.run_unsafeString_row w.drew 226 3 9 5 Tryz.underlying226 (by kernel_rfl) g cur.size (by simp [World.shape?, hgd]) l h0 (by omega) (by unfold maxLen at hcm; omega) ?_
      intro j x hx
      exact hown.cells (g := g) rfl j (.int .u8 x.toNat) (by simp [Lib.byteCells, hx])
    obtain ⟨k1, k2⟩ := Q.froze w.drew g l.length cap 5 cur fz (Lib.byteCells l) hl0 hgd hown
    have hgb : b ≠ g := fun e => hne (by rw [e]; rfl)
    have hsz : (w.drew.freeze ⟨g, 0, none⟩ l.length).heap.size = w.heap.size := by unfold World.freeze; rw [if_neg hl0]; simp
    have hos : (w.drew.freeze ⟨g, 0, none⟩ l.length).os = w.os ∧ (w.drew.freeze ⟨g, 0, none⟩ l.length).tape = w.tape ∧ (w.drew.freeze ⟨g, 0, none⟩ l.length).output = w.output := by unfold World.freeze; rw [if_neg hl0]; exact ⟨rfl, rfl, rfl⟩
    go_enter Tryz.func79, Tryz.ntmps79
    go_wp2
    go_region
    all_goals
      go_wp2
      go_ret
      exact ⟨rfl, (k2 b hgb).trans hb, k1, ⟨hos.1, hos.2.1, hos.2.2, hsz⟩, fun k hk => k2 k (fun e => hk (by rw [e]; rfl))⟩
end Go.Proofs
namespace Go.Proofs.YtblnfodnkacbbaaGreatDoor.Q
open Go.RowKit
variable [Amb]
/-- What changes a builder alone. -/
theorem bld_go {more : List Ob} {G : Imm} {w w' : World} {φ : Loc} {T e : Nat} {u u' : Bool} {s s' : List UInt8} {rest : List V} (hs : Sit G w φ (hp (.bld T e u s rest :: more))) {b : Nat} {v v' : Value} {us : List Value}
    (h1 : φ 0 0 = some (some (b, 0), 0)) (h3 : repVs G φ rest us) (h4 : ∀ u ∈ us, u.oneCell' = true) (h5 : ∀ o, G b o = none) (h8 : ∀ g, v.ownBlock = some g → (φ 0 (g + 1)).isSome = true) (h9 : ∀ g, (φ 0 (g + 1)).isSome = true → g < w.heap.size ∧ ∀ o, G g o = none) (hb : b < w.heap.size)
    (hbw : w'.heap[b]? = some (.cells (bldP b u' :: v' :: us).toArray T (0, 0))) (hown : w'.ownsRowF 0 e 1 v' s'.length (Lib.byteCells s')) (hne : v'.ownBlock ≠ some b) (hfr : ∀ g, v'.ownBlock = some g → v.ownBlock = some g ∨ w.heap.size ≤ g) (hnil : s' = [] → v' = .slice none 0 0)
    (hos : w'.os = w.os) (htape : w'.tape = w.tape) (hout : w'.output = w.output) (hsize : w.heap.size ≤ w'.heap.size) (hblk : ∀ k, k < w.heap.size → k ≠ b → v.ownBlock ≠ some k → w'.heap[k]? = w.heap[k]?) :
    ∃ φ', Sit G w' φ' (hp (.bld T e u' s' rest :: more)) ∧ Goes G w φ (hp (.bld T e u s rest :: more)) G w' φ' (hp (.bld T e u' s' rest :: more)) := by
  have hlt : ∀ g, v'.ownBlock = some g → g < w'.heap.size := fun g hg => (hown.lt g hg).2
  obtain ⟨φ', hle, hz, hφ0, hnew, hold⟩ : ∃ φ' : Loc, φ.le φ' ∧ (∀ i, ¬ i = 0 → ∀ n, φ' i n = φ i n) ∧ φ' 0 0 = some (some (b, 0), 0) ∧ (∀ g, v'.ownBlock = some g → (φ' 0 (g + 1)).isSome = true) ∧ (∀ g, (φ' 0 (g + 1)).isSome = true → (φ 0 (g + 1)).isSome = true ∨ (v'.ownBlock = some g ∧ w.heap.size ≤ g)) := by
    cases hv : v'.ownBlock with
    | none => exact ⟨φ, Loc.le.refl _, fun _ _ _ => rfl, h1, fun g hg => (by cases hg), fun g hg => .inl hg⟩
    | some g0 =>
      rcases hfr g0 hv with h | h
      · exact ⟨φ, Loc.le.refl _, fun _ _ _ => rfl, h1, fun g hg => (by injection hg with hg; subst hg; exact h8 _ h), fun g hg => .inl hg⟩
      · have hno : φ 0 (g0 + 1) = none := by
          cases hq : φ 0 (g0 + 1) with
          | none => rfl
          | some z => have := (h9 g0 (by rw [hq]; rfl)).1; omega
        refine ⟨setLoc φ 0 (g0 + 1) (none, 0), setLoc_le hno, fun i hi n => setLoc_ne hi, by rw [setLoc_other (by omega)]; exact h1, fun g hg => ?_, fun g hg => ?_⟩
        · injection hg with hg; subst hg
          rw [setLoc_same]; rfl
        · by_cases hgg : g = g0
          · subst hgg; exact .inr ⟨rfl, h⟩
          · rw [setLoc_other (by omega)] at hg; exact .inl hg
  have notown : ∀ k, (∀ i ob, i = 0 → hp (Ob.bld T e u s rest :: more) i = some ob → ¬ Owns φ i ob k) → k ≠ b ∧ v.ownBlock ≠ some k := fun k h => by
    have := h 0 _ rfl rfl
    exact ⟨fun e => this (.inl ⟨0, by rw [e]; exact h1⟩), fun e => this (.inr (h8 k e))⟩
  have hblk' : ∀ k, k < w.heap.size → (∀ i ob, i = 0 → hp (Ob.bld T e u s rest :: more) i = some ob → ¬ Owns φ i ob k) → w'.heap[k]? = w.heap[k]? ∧ ∀ o, G k o = G k o := fun k hk h => by
    obtain ⟨a1, a2⟩ := notown k h
    exact ⟨hblk k hk a1 a2, fun _ => rfl⟩
  refine ⟨φ', hs.step (fun i => i = 0) (Imm.le.refl _) hle hz hos htape hout hsize hblk' (fun i hi => ?_) ?_ ?_ ?_ ?_ ?_⟩
  · cases i with
    | zero => exact absurd rfl hi
    | succ i => rfl
  · refine hs.inv.of (Imm.le.refl _) (fun k cs T' fr hk h0 hall => ?_) fun k o x hx => ?_
    · have h0 := hall 0 h0
      refine hblk k (Array.getElem?_eq_some_iff.1 hk).1 (fun e => ?_) fun e => ?_
      · rw [e, h5] at h0; cases h0
      · rw [(h9 k (h8 k e)).2] at h0; cases h0
    have hk := (hs.inv.1 k o x hx).lt
    have hkb : k ≠ b := fun e => by rw [e, h5] at hx; cases hx
    have hkv : v.ownBlock ≠ some k := fun e => by rw [(h9 k (h8 k e)).2] at hx; cases hx
    have := hblk k hk hkb hkv
    exact (hs.inv.1 k o x hx).go (Imm.le.refl _) (fun h6 => by
      unfold World.cell? at h6 ⊢
      rw [this]; exact h6) fun _ => this
  · intro i ob hi hH
    subst hi
    injection hH with hH; subst hH
    refine ⟨b, v', us, hφ0, hbw, repVs_mono (Imm.le.refl _) hle _ _ h3, h4, h5, hne, hown, hnew, fun g hg => ?_, hnil⟩
    rcases hold g hg with h | ⟨h, _⟩
    · obtain ⟨a1, a2⟩ := h9 g h
      exact ⟨by omega, a2⟩
    · refine ⟨hlt g h, fun o => ?_⟩
      rcases hfr g h with h' | h'
      · exact (h9 g (h8 g h')).2 o
      · exact hs.inv.fresh h' o
  · intro i j ob ob' k hi hj hij
    exact absurd (hi.trans hj.symm) hij
  · intro i ob k hi hH hk
    subst hi
    injection hH with hH; subst hH
    rcases hk with ⟨c, hk⟩ | hk
    · rw [hφ0] at hk
      injection hk with hk; injection hk with hk _; injection hk with hk; injection hk with hk; subst hk
      exact .inl ⟨0, _, rfl, rfl, .inl ⟨_, h1⟩⟩
    · rcases hold k hk with h | ⟨_, h⟩
      · exact .inl ⟨0, _, rfl, rfl, .inr h⟩
      · exact .inr h
  · intro i hi hH
    subst hi; cases hH
/-- A type that begins with a strings.Builder, n cells more behind it. -/
def heads (T n : Nat) : Prop := liesAt Tryz.prog Tryz.prog.depth T ((n + 2) / Tryz.prog.cellsOf T) 0 164 1 = true
theorem bldP_eq (b : Nat) (u : Bool) : bldP b u = match u with | true => .pointer (some ⟨b, 0, none⟩) | false => .pointer none := rfl
theorem wrStr_c (T : Nat) (u : Bool) (s : List UInt8) (rest : List V) (x : Str) (hT : heads T rest.length) (hl : s.length + x.length ≤ 140737488355328) (more : List Ob := []) :
    PFun Tryz.prog 78 [.ptr 0 0, sv' x] (.bld T 5 u s rest :: more) (.tup [iv x.length, .d (.raw .nilIface)]) (.bld T 5 true (s ++ x) rest :: more) := by
  refine ⟨⟨_, Tryz.func78, by kernel_rfl, by kernel_rfl⟩, fun G w φ us hs hu => ?_⟩
  obtain ⟨v0, vs, rfl, ⟨b, c, hp0, rfl⟩, v1, vs1, rfl, hv1, hvs⟩ := hu
  have hv1 : v1 = .string ⟨x.toArray⟩ := hv1
  have hvs : vs1 = [] := hvs
  subst hv1; subst hvs
  obtain ⟨b', v, us, h1, h2, h3, h4, h5, h6, h7, h8, h9, h10⟩ := hs.holds 0 _ rfl
  rw [h1] at hp0; injection hp0 with e1; injection e1 with e1 e2; injection e1 with e1; injection e1 with e1; subst e1
  have hlen := repVs_len h3
  have hsz : (⟨x.toArray⟩ : ByteArray).size = x.length := by simp [ByteArray.size]
  have key := YtblnfodnkacbbaaGreatDoor.wrStr_w b' w u v us T ⟨x.toArray⟩ s.length (Lib.byteCells s) (by rw [← bldP_eq]; exact h2) (by rw [hlen]; exact hT) h7 h6 (by rw [hsz]; exact hl) (fun e => h10 (List.eq_nil_of_length_eq_zero e))
  refine key.mono ?_
  rintro e w' ⟨rfl, W⟩
  obtain ⟨v', q1, q2, q3, q4, q5⟩ := W.bw
  rw [hsz] at q2 q5
  have hcells : Lib.byteCells s ++ Lib.strCells ⟨x.toArray⟩ = Lib.byteCells (s ++ x) := by rw [Lib.strCells_eq, Lib.byteCells_append]
  rw [hcells, ← List.length_append] at q2
  obtain ⟨φ', g1, g2⟩ := bld_go (u' := true) (s' := s ++ x) hs h1 h3 h4 h5 h8 h9 (Array.getElem?_eq_some_iff.1 h2).1 q1 q2 q3 q4 (fun e => q5 (by have := congrArg List.length e; rw [List.length_append] at this; exact this)) W.os W.tape W.output W.size W.block
  refine ⟨_, _, _, G, φ', rfl, ⟨rfl, rfl⟩, Nat.le_refl _, g1, g2, ?_⟩
  exact ⟨[_, _], by rw [hsz], _, _, rfl, rfl, _, _, rfl, ⟨rfl, rfl⟩, rfl⟩
theorem string_c (T : Nat) (u : Bool) (s : List UInt8) (rest : List V) (more : List Ob := []) : PFun Tryz.prog 79 [.ptr 0 0] (.bld T 5 u s rest :: more) (sv' s) (.bld T 5 u s rest :: more) := by
  refine ⟨⟨_, Tryz.func79, by kernel_rfl, by kernel_rfl⟩, fun G w φ us hs hu => ?_⟩
  obtain ⟨v0, vs, rfl, ⟨b, c, hp0, rfl⟩, hvs⟩ := hu
  have hvs : vs = [] := hvs
  subst hvs
  obtain ⟨b', v, us, h1, h2, h3, h4, h5, h6, h7, h8, h9, h10⟩ := hs.holds 0 _ rfl
  rw [h1] at hp0; injection hp0 with e1; injection e1 with e1 e2; injection e1 with e1; injection e1 with e1; subst e1
  refine (YtblnfodnkacbbaaGreatDoor.string_w b' w (bldP b' u) v us T s h2 h7 h6 h10).mono ?_
  rintro e w' ⟨rfl, q1, q2, ⟨o1, o2, o3, o4⟩, q3⟩
  obtain ⟨φ', g1, g2⟩ := bld_go (u' := u) (s' := s) hs h1 h3 h4 h5 h8 h9 (Array.getElem?_eq_some_iff.1 h2).1 q1 q2 h6 (fun g hg => .inl hg) h10 o1 o2 o3 (Nat.le_of_eq o4.symm) (fun k _ _ hk => q3 k hk)
  exact ⟨_, _, _, G, φ', rfl, ⟨rfl, rfl⟩, Nat.le_refl _, g1, g2, rfl⟩
end Go.Proofs.YtblnfodnkacbbaaGreatDoor.Q

namespace Go.Proofs.YtblnfodnkacbbaaGreatDoor.Q
open Go.RowKit
variable [Amb]
def isName (s : Str) : Bool := !(s == []) && decide (s.length ≤ 32) && (classS ((s.headD 0).toNat : Int) == 3) && !isWord s && (spanF inNameS 0 s == s.length)
theorem lexName_c (s : Str) (hs : s.length < 1073741824) : PFun Tryz.prog 257 [sv' s] [] (.d (.bool (isName s))) [] := by
  refine fn_sem pok 25 0 Tryz.func257 (by kernel_rfl) rfl rfl rfl rfl ?_
  refine SWp.go pok (by kernel_rfl) ?_
  refine brP_split (fun h => ?_) (fun h => ?_)
  · exact fin1 (dbool (by simp only [isName, h]; rfl))
  · have hne : s ≠ [] := by simpa using h
    refine brP_split (fun h1 => ?_) (fun h1 => ?_)
    · have : ¬ s.length ≤ 32 := by simp at h1; omega
      exact fin1 (dbool (by simp [isName, this]))
    · have h32 : s.length ≤ 32 := by simp at h1; omega
      have hh : s[0]? = some (s.headD 0) := by cases s with | nil => exact absurd rfl hne | cons b r => rfl
      refine PIdx.at hh ?_
      refine PFun.call (classOf_c _) ?_
      refine brP_split (fun h2 => ?_) (fun h2 => ?_)
      · have h2 : (classS ((s.headD 0).toNat : Int) == 3) = false := by simpa using h2
        exact fin1 (dbool (by simp only [isName, h2]; simp))
      · have h2 : (classS ((s.headD 0).toNat : Int) == 3) = true := by simpa using h2
        refine PFun.call (word_c s) ?_
        refine brP_split (fun h3 => ?_) (fun h3 => ?_)
        · exact fin1 (dbool (by simp [isName, h3]))
        · refine PFun.call (span_c _ inNameS inName_c s 0 (Nat.zero_le _) hs) ?_
          refine brP_split (fun h4 => ?_) (fun h4 => ?_)
          · have e4 : (spanF inNameS 0 s == s.length) = true := by simp at h4 ⊢; omega
            exact fin1 (dbool (by simp only [isName, h2, h3, e4, decide_eq_true h32, beq_eq_false_iff_ne.2 hne]; rfl))
          · have e4 : (spanF inNameS 0 s == s.length) = false := by simp at h4 ⊢; omega
            exact fin1 (dbool (by simp only [isName, e4, Bool.and_false]))
end Go.Proofs.YtblnfodnkacbbaaGreatDoor.Q

namespace Go.Proofs.YtblnfodnkacbbaaGreatDoor.Q
open Go.RowKit
variable [Amb]
mutual
/-- An expression and all its parts, the whole first. -/
def Ex.pre : Ex → List Ex
  | ⟨op, mon, name, n, kids, pl⟩ => ⟨op, mon, name, n, kids, pl⟩ :: Ex.pres kids
def Ex.pres : List Ex → List Ex
  | [] => []
  | x :: r => x.pre ++ Ex.pres r
end
theorem Ex.pre_eq (x : Ex) : x.pre = x :: Ex.pres x.kids := by cases x; rw [Ex.pre]
theorem Ex.pres_map : ∀ l : List Ex, Ex.pres l = l.flatMap Ex.pre
  | [] => by simp [Ex.pres]
  | x :: r => by rw [Ex.pres, Ex.pres_map r]; simp
theorem Ex.pres_snoc {l : List Ex} {k : Nat} (h : k < l.length) : Ex.pres (l.take (k + 1)) = Ex.pres (l.take k) ++ l[k].pre := by
  rw [Ex.pres_map, Ex.pres_map, take_snoc l k h, List.flatMap_append]; simp
theorem Ex.pre_pos (x : Ex) : 0 < x.pre.length := by rw [x.pre_eq]; simp
theorem Ex.pre_kid {x y : Ex} (h : y ∈ x.kids) : y.pre.length < x.pre.length := by
  rw [x.pre_eq, Ex.pres_map]
  obtain ⟨a, b, e⟩ := List.append_of_mem h
  rw [e]; simp [List.length_flatMap]; omega
theorem Ex.pre_sub {x y z : Ex} (h : y ∈ x.kids) (k : z ∈ y.pre) : z ∈ x.pre := by
  rw [x.pre_eq, Ex.pres_map]
  exact List.mem_cons_of_mem _ (List.mem_flatMap.2 ⟨y, h, k⟩)
theorem Ex.kids_len (x : Ex) : x.kids.length < x.pre.length := by
  rw [x.pre_eq, Ex.pres_map]
  have : ∀ l : List Ex, l.length ≤ (l.flatMap Ex.pre).length := by
    intro l
    induction l with
    | nil => simp
    | cons y r ih => have := y.pre_pos; rw [List.flatMap_cons, List.length_append, List.length_cons]; omega
  have := this x.kids
  rw [List.length_cons]; omega
/-- Expressions are handed on, one behind the other, until one says no. -/
def runY : List (List V) → List Ex → Bool × List (List V)
  | xs, [] => (true, xs)
  | xs, y :: ys => if Amb.go (xs ++ [[y.v]]) = true then runY (xs ++ [[y.v]]) ys else (false, xs ++ [[y.v]])
theorem runY_yes {y : Ex} {ys : List Ex} {xs : List (List V)} (h : Amb.go (xs ++ [[y.v]]) = true) : runY xs (y :: ys) = runY (xs ++ [[y.v]]) ys := by rw [runY, if_pos h]
theorem runY_no {y : Ex} {ys : List Ex} {xs : List (List V)} (h : ¬ Amb.go (xs ++ [[y.v]]) = true) : runY xs (y :: ys) = (false, xs ++ [[y.v]]) := by rw [runY, if_neg h]
theorem runY_append_yes : ∀ (l1 l2 : List Ex) (xs : List (List V)), (runY xs l1).1 = true → runY xs (l1 ++ l2) = runY (runY xs l1).2 l2
  | [], l2, xs, _ => rfl
  | y :: ys, l2, xs, k => by
    by_cases h : Amb.go (xs ++ [[y.v]]) = true
    · rw [runY_yes h] at k ⊢; rw [List.cons_append, runY_yes h]; exact runY_append_yes ys l2 _ k
    · rw [runY_no h] at k; cases k
theorem runY_append_no : ∀ (l1 l2 : List Ex) (xs : List (List V)), (runY xs l1).1 = false → runY xs (l1 ++ l2) = runY xs l1
  | [], l2, xs, k => by cases k
  | y :: ys, l2, xs, k => by
    by_cases h : Amb.go (xs ++ [[y.v]]) = true
    · rw [runY_yes h] at k ⊢; rw [List.cons_append, runY_yes h]; exact runY_append_no ys l2 _ k
    · rw [runY_no h, List.cons_append, runY_no h]
def Wents (xs : List (List V)) : Prop := ∀ m, 0 < m → m ≤ xs.length → Amb.go (xs.take m) = true
theorem Wents.snoc {xs : List (List V)} {a : List V} (h : Wents xs) (k : Amb.go (xs ++ [a]) = true) : Wents (xs ++ [a]) := fun m h0 hm => by
  by_cases e : m ≤ xs.length
  · rw [List.take_append_of_le_length e]; exact h m h0 e
  · have : m = (xs ++ [a]).length := by simp at hm ⊢; omega
    rw [this, List.take_length]; exact k
theorem runY_went : ∀ (l : List Ex) (xs : List (List V)), Wents xs → (runY xs l).1 = true → Wents (runY xs l).2
  | [], xs, h, _ => h
  | y :: ys, xs, h, k => by
    by_cases hg : Amb.go (xs ++ [[y.v]]) = true
    · rw [runY_yes hg] at k ⊢; exact runY_went ys _ (h.snoc hg) k
    · rw [runY_no hg] at k; cases k
abbrev walkH (xs : List (List V)) : List Ob := [.box [.yld 1], .hist xs, .box [.fn (.func 255) [] [.ptr 0 0, .ptr 2 0]]]
theorem walk_c (N : Nat) : ∀ (x : Ex) (xs : List (List V)), x.pre.length ≤ N → x.pre.length < 1073741824 → Wents xs → (∀ zs y, y ∈ x.pre → Amb.ok Tryz.prog (zs ++ [[y.v]])) →
    PFun Tryz.prog 255 [x.v, .ptr 0 0, .ptr 2 0] (walkH xs) (.d (.bool (runY xs x.pre).1)) (walkH (runY xs x.pre).2) := by
  induction N with
  | zero => intro x xs h; have := x.pre_pos; omega
  | succ N ih =>
    intro x xs hN hB hw hok
    have hkl := x.kids_len
    refine fn_sem pok 23 3 Tryz.func255 (by kernel_rfl) rfl rfl rfl rfl ?_
    refine SWp.go pok (by kernel_rfl) ?_
    refine ⟨⟨hok xs x (by rw [x.pre_eq]; exact List.mem_cons_self), hw⟩, brP_split (fun h => ?_) (fun h => ?_)⟩
    · have hw1 := hw.snoc h
      have hr0 : runY xs x.pre = runY (xs ++ [[x.v]]) (Ex.pres x.kids) := by rw [x.pre_eq, runY_yes h]
      refine SWp.loop (fun k : Nat => k ≤ x.kids.length ∧ (runY (xs ++ [[x.v]]) (Ex.pres (x.kids.take k))).1 = true)
        (fun k => ([(1, .ptr 0 0), (2, .ptr 2 0), (12, .d (.sl (x.kids.map Ex.e))), (13, iv (x.kids.map Ex.e).length), (14, iv k)], walkH (runY (xs ++ [[x.v]]) (Ex.pres (x.kids.take k))).2))
        (fun k => x.kids.length - k) 0 ⟨Nat.zero_le _, by simp [Ex.pres, runY]⟩ (.inr ⟨[0, 1, 2], ⟨rfl, rfl⟩, rfl, rfl, rfl, rfl, rfl, rfl, trivial⟩) (fun k hk => ?_)
      obtain ⟨hj, hk⟩ := hk
      refine SWp.go pok (by kernel_rfl) ?_
      refine brP_split (fun h2 => ?_) (fun h2 => ?_)
      · have hlt : k < x.kids.length := by simpa using h2
        have hm := List.getElem_mem hlt
        have hsn := Ex.pres_snoc hlt
        have hlk := Ex.pre_kid hm
        have hap := runY_append_yes (Ex.pres (x.kids.take k)) x.kids[k].pre (xs ++ [[x.v]]) hk
        rw [← hsn] at hap
        refine PIdx.ex hlt ?_
        refine PFun.call (ih x.kids[k] (runY (xs ++ [[x.v]]) (Ex.pres (x.kids.take k))).2 (by omega) (by omega) (runY_went _ _ hw1 hk) (fun zs y hy => hok zs y (Ex.pre_sub hm hy))) ?_
        rw [← hap]
        refine brP_split (fun h3 => ?_) (fun h3 => ?_)
        · have h3 : (runY (xs ++ [[x.v]]) (Ex.pres (x.kids.take (k + 1)))).1 = false := by simpa using h3
          have hfin : runY xs x.pre = runY (xs ++ [[x.v]]) (Ex.pres (x.kids.take (k + 1))) := by
            rw [hr0]
            have e1 : x.kids = x.kids.take (k + 1) ++ x.kids.drop (k + 1) := (List.take_append_drop _ _).symm
            have e2 : Ex.pres x.kids = Ex.pres (x.kids.take (k + 1)) ++ Ex.pres (x.kids.drop (k + 1)) := by
              rw [Ex.pres_map, Ex.pres_map, Ex.pres_map, ← List.flatMap_append, ← e1]
            rw [e2, runY_append_no _ _ _ h3]
          exact ⟨by rw [hfin, h3], by rw [hfin]⟩
        · exact ⟨k + 1, ⟨hlt, by simpa using h3⟩, by omega, .inr ⟨[0, 1, 2], ⟨rfl, rfl⟩, rfl, rfl, rfl, rfl, rfl, sint (wrap_nat k (by omega)), trivial⟩⟩
      · have hk' : x.kids.take k = x.kids := List.take_of_length_le (by simp at h2; omega)
        rw [hk'] at hk ⊢
        exact ⟨by rw [hr0, hk], by rw [hr0]⟩
    · have hr0 : runY xs x.pre = (false, xs ++ [[x.v]]) := by rw [x.pre_eq, runY_no (fun e => absurd (e.symm.trans h) (by simp))]
      exact ⟨by rw [hr0], by rw [hr0]; rfl⟩
end Go.Proofs.YtblnfodnkacbbaaGreatDoor.Q

namespace Go.Proofs.YtblnfodnkacbbaaGreatDoor.Q
open Go.RowKit
variable [Amb]
def partsL : List Int := [-1, 0, 0, 0, 0, 1, 1, 1, 2, 2, 2, 2, 2, 2, 2, 2, 2, 2]
/-- How many parts a kind of expressions has. -/
def partsS (op : Int) : Int := if op < 0 then -1 else if 18 ≤ op then -1 else partsL.getD op.toNat (-1)
theorem parts_c (op : Int) : PFun Tryz.prog 256 [iv op] [] (iv (partsS op)) [] := by
  refine fn_sem pok 14 0 Tryz.func256 (by kernel_rfl) rfl rfl rfl rfl ?_
  by_cases h0 : op < 0
  · refine SWp.go pok (by kernel_rfl) ?_
    refine brP_true (decide_eq_true h0) ?_
    exact fin1 (dint (by rw [partsS, if_pos h0]))
  by_cases h1 : 18 ≤ op
  · refine SWp.go pok (by kernel_rfl) ?_
    refine brP_false (decide_eq_false h0) ?_
    refine brP_true (decide_eq_true (by omega)) ?_
    exact fin1 (dint (by rw [partsS, if_neg h0, if_pos h1]))
  have : op = 0 ∨ op = 1 ∨ op = 2 ∨ op = 3 ∨ op = 4 ∨ op = 5 ∨ op = 6 ∨ op = 7 ∨ op = 8 ∨ op = 9 ∨ op = 10 ∨ op = 11 ∨ op = 12 ∨ op = 13 ∨ op = 14 ∨ op = 15 ∨ op = 16 ∨ op = 17 := by omega
  rcases this with rfl | rfl | rfl | rfl | rfl | rfl | rfl | rfl | rfl | rfl | rfl | rfl | rfl | rfl | rfl | rfl | rfl | rfl <;>
  · refine SWp.go pok (by kernel_rfl) ?_
    exact ⟨by decide, fin1 rfl⟩
/-- Whether an expression has its shape, its parts aside. -/
def isPartS (x : Ex) : Bool :=
  ((x.kids.length : Int) == partsS x.op) && (bif x.op == 4 then isName x.mon && isName x.name else (x.mon == []) && (x.name == [])) && (decide (x.n ≥ 0) && ((x.op == 1) || (x.op == 7) || (x.n == 0)))
theorem isPart_c (x : Ex) (hk : x.kids.length < 1073741824) (hm : x.mon.length < 1073741824) (hn : x.name.length < 1073741824) : PFun Tryz.prog 233 [x.v] [] (.d (.bool (isPartS x))) [] := by
  refine fn_sem pok 62 0 Tryz.func233 (by kernel_rfl) rfl rfl rfl rfl ?_
  refine SWp.go pok (by kernel_rfl) ?_
  repeat' first
    | refine brP_split (fun h => ?_) (fun h => ?_)
    | refine PFun.call (lexName_c x.mon hm) ?_
    | refine PFun.call (lexName_c x.name hn) ?_
    | refine ⟨_, _, parts_c x.op, ?_⟩
  all_goals
    refine fin1 (dbool ?_)
    unfold isPartS
    simp_all
    try omega
end Go.Proofs.YtblnfodnkacbbaaGreatDoor.Q

namespace Go.Proofs.YtblnfodnkacbbaaGreatDoor.Q
open Go.RowKit
section
variable [Amb]
theorem all1_c (x : Ex) (hB : x.pre.length < 1073741824) (hok : ∀ zs y, y ∈ x.pre → Amb.ok Tryz.prog (zs ++ [[y.v]])) :
    PFun Tryz.prog 254 [.yld 1, .ptr 0 0] [.box x.cells, .hist []] (.tup []) [.box x.cells, .hist (runY [] x.pre).2] := by
  refine fn_sem pok 8 2 Tryz.func254 (by kernel_rfl) rfl rfl rfl rfl ?_
  refine SWp.go pok (by kernel_rfl) ?_
  refine PFun.call (walk_c _ x [] (Nat.le_refl _) hB (fun m h0 hm => by simp at hm; omega) hok) ?_
  exact ⟨rfl, rfl⟩
theorem all_c (x : Ex) : PFun Tryz.prog 232 [x.v] [] (.fn (.func 254) [] [.ptr 0 0]) [.box x.cells] := by
  refine fn_sem pok 4 0 Tryz.func232 (by kernel_rfl) rfl rfl rfl rfl ?_
  refine SWp.go pok (by kernel_rfl) ?_
  exact ⟨rfl, rfl⟩
end
/-! ### ranges over all parts -/
theorem runY_spec [Amb] (p : Ex → Bool) : ∀ (l : List Ex) (xs : List (List V)), (∀ zs y, y ∈ l → Amb.go (zs ++ [[y.v]]) = p y) →
    (l.all p = true → runY xs l = (true, xs ++ l.map fun y => [y.v])) ∧ (l.all p = false → ∃ zs y, y ∈ l ∧ p y = false ∧ runY xs l = (false, zs ++ [[y.v]]))
  | [], xs, _ => ⟨fun _ => by simp [runY], fun h => by simp at h⟩
  | y :: l, xs, hp => by
    have hg := hp xs y List.mem_cons_self
    have ih := runY_spec p l (xs ++ [[y.v]]) (fun zs z hz => hp zs z (List.mem_cons_of_mem _ hz))
    cases hy : p y with
    | true =>
      rw [hy] at hg
      rw [runY_yes hg]
      refine ⟨fun h => ?_, fun h => ?_⟩
      · rw [ih.1 (by simpa [hy] using h)]; simp
      · obtain ⟨zs, z, h1, h2⟩ := ih.2 (by simpa [hy] using h)
        exact ⟨zs, z, List.mem_cons_of_mem _ h1, h2⟩
    | false =>
      rw [hy] at hg
      rw [runY_no (by rw [hg]; simp)]
      exact ⟨fun h => by simp [hy] at h, fun _ => ⟨xs, y, List.mem_cons_self, hy, rfl⟩⟩
/-- The last that was handed on is not as it must be. -/
def BadLast (p : Ex → Bool) (xs : List (List V)) : Prop := ∃ zs y, xs = zs ++ [[Ex.v y]] ∧ p y = false
noncomputable def lastOr {α : Type} (p : Ex → Bool) (good bad : α) (xs : List (List V)) : α := @ite _ (BadLast p xs) (Classical.propDecidable _) bad good
theorem lastOr_snoc {α : Type} {p : Ex → Bool} (hp : ∀ y z : Ex, y.v = z.v → p y = p z) (good bad : α) (zs : List (List V)) (y : Ex) : lastOr p good bad (zs ++ [[y.v]]) = bif p y then good else bad := by
  unfold lastOr
  cases hy : p y with
  | true =>
    rw [if_neg]; rfl
    rintro ⟨zs', y', e, h⟩
    have e2 := (List.append_inj' e rfl).2
    injection e2 with e2; injection e2 with e2
    rw [hp y y' e2] at hy
    rw [hy] at h; cases h
  | false =>
    rw [if_pos ⟨zs, y, rfl, hy⟩]; rfl
theorem lastOr_nil {α : Type} {p : Ex → Bool} (good bad : α) : lastOr p good bad [] = good := by
  unfold lastOr
  rw [if_neg]
  rintro ⟨zs, y, e, _⟩
  have := congrArg List.length e
  simp at this
theorem lastOr_map {α β : Type} (f : α → β) {p : Ex → Bool} (good bad : α) (xs : List (List V)) : f (lastOr p good bad xs) = lastOr p (f good) (f bad) xs := by
  unfold lastOr
  by_cases h : BadLast p xs
  · rw [if_pos h, if_pos h]
  · rw [if_neg h, if_neg h]
theorem lastOr_cases {α : Type} (p : Ex → Bool) (good bad : α) (xs : List (List V)) : (lastOr p good bad xs = good ∧ ∀ {β : Type} (a b : β), lastOr p a b xs = a) ∨ (lastOr p good bad xs = bad ∧ ∀ {β : Type} (a b : β), lastOr p a b xs = b) := by
  by_cases h : BadLast p xs
  · exact .inr ⟨by unfold lastOr; rw [if_pos h], fun a b => by unfold lastOr; rw [if_pos h]⟩
  · exact .inl ⟨by unfold lastOr; rw [if_neg h], fun a b => by unfold lastOr; rw [if_neg h]⟩
/-- An expression that fits into memory. -/
def Ex.fits (x : Ex) : Prop := x.pre.length < 1073741824 ∧ ∀ y ∈ x.pre, y.kids.length < 1073741824 ∧ y.mon.length < 1073741824 ∧ y.name.length < 1073741824
theorem isPartS_v (y z : Ex) (h : y.v = z.v) : isPartS y = isPartS z := by
  unfold Ex.v at h
  simp only [V.agg.injEq, List.cons.injEq, V.d.injEq, D.int.injEq, D.str.injEq, D.sl.injEq, true_and, and_true] at h
  obtain ⟨h1, h2, h3, h4, h5, h6⟩ := h
  have h5 := congrArg List.length h5
  simp at h5
  unfold isPartS
  rw [h1, h2, h3, h4, h5]
/-- Whether an expression has its shape: 0; else 20. -/
def checkS (x : Ex) : Int := bif x.pre.all isPartS then 0 else 20
theorem checkExpr_c [Amb] (x : Ex) (hx : x.fits) : PFun Tryz.prog 206 [x.v] [] (iv (checkS x)) [] := by
  refine fn_sem pok 10 0 Tryz.func206 (by kernel_rfl) rfl rfl rfl rfl ?_
  refine SWp.go pok (by kernel_rfl) ?_
  refine PFun.call (all_c x) ?_
  refine SWp.range 254 [.ptr 2 0] rfl rfl (by decide) (lastOr isPartS .normal .ret) (lastOr_nil _ _) (fun xs => ∃ zs y, y ∈ x.pre ∧ xs = zs ++ [[y.v]])
    (fun xs a ⟨zs, y, _, e⟩ => by have := (List.append_inj' e rfl).2; injection this with this; rw [this]; rfl)
    (lastOr isPartS [.box x.cells, .box [iv 0], .dead] [.box x.cells, .box [iv 20], .dead]) (fun xs => by rw [lastOr_map List.length]; rcases lastOr_cases isPartS 3 3 xs with h | h <;> exact h.1)
    (fun xs => lastOr isPartS 0 20 xs = checkS x) (fun l xs a hok hfin => ?_) ?_ (fun xs hz => ?_)
  · obtain ⟨zs, y, hy, e⟩ := hok
    obtain ⟨e1, e2⟩ := List.append_inj' e rfl
    injection e2 with e2
    subst e1; subst e2
    have hf := hx.2 y hy
    have hst : ∀ {β : Type} (a b : β), lastOr isPartS a b xs = a := by
      rcases lastOr_cases isPartS PX.normal PX.ret xs with h | h
      · exact h.2
      · rw [h.1] at hfin; cases hfin
    unfold roundQ
    rw [hst, lastOr_snoc isPartS_v, lastOr_snoc isPartS_v]
    refine SWp.go pok (by kernel_rfl) ?_
    refine SWp.go pok (by kernel_rfl) ?_
    refine PFun.call (isPart_c y hf.1 hf.2.1 hf.2.2) ?_
    refine brP_split (fun h => ?_) (fun h => ?_)
    · have h : isPartS y = false := by simpa using h
      exact ⟨by rw [h]; rfl, .inr ⟨[0, 1, 2], ⟨rfl, rfl⟩, by rw [h]; rfl, trivial⟩⟩
    · have h : isPartS y = true := by simpa using h
      exact ⟨by rw [h]; rfl, .inr ⟨[0, 1, 2], ⟨rfl, rfl⟩, by rw [h]; rfl, trivial⟩⟩
  · refine ⟨lastOr_nil _ _, rfl, fun A' _ _ hgo hok => ?_⟩
    refine PCalls.mono (@all1_c A' x hx.1 (fun zs y hy => by rw [hok]; exact ⟨rfl, zs, y, hy, rfl⟩)) ?_
    rintro r h' ⟨_, rfl⟩
    refine ⟨_, [.box x.cells], rfl, rfl, ?_⟩
    have sp := @runY_spec A' isPartS x.pre [] (fun zs y hy => by
      rw [hgo]
      show (lastOr isPartS PX.normal PX.ret (zs ++ [[y.v]])).goes = _
      rw [lastOr_snoc isPartS_v]; cases isPartS y <;> rfl)
    unfold checkS
    cases hall : x.pre.all isPartS with
    | true =>
      rw [sp.1 hall]
      show lastOr isPartS 0 20 ([] ++ x.pre.map fun y => [y.v]) = 0
      rcases List.eq_nil_or_concat x.pre with h | ⟨l, z, h⟩
      · rw [h]; exact lastOr_nil _ _
      · rw [h, List.concat_eq_append] at hall ⊢
        rw [List.map_append, ← List.append_assoc]
        rw [List.map_cons, List.map_nil, lastOr_snoc isPartS_v]
        have : isPartS z = true := by rw [List.all_append] at hall; simp at hall; exact hall.2
        rw [this]; rfl
    | false =>
      obtain ⟨zs, z, _, h2, h3⟩ := sp.2 hall
      rw [h3]
      show lastOr isPartS 0 20 (zs ++ [[z.v]]) = 20
      rw [lastOr_snoc isPartS_v, h2]; rfl
  · rcases lastOr_cases isPartS PX.normal PX.ret xs with h | h
    · rw [h.1, h.2]
      rw [h.2] at hz
      exact fin1 (dint hz)
    · rw [h.1, h.2]
      rw [h.2] at hz
      exact fin1 (dint hz)
end Go.Proofs.YtblnfodnkacbbaaGreatDoor.Q

namespace Go.Proofs.YtblnfodnkacbbaaGreatDoor.Q
open Go.RowKit
variable [Amb]
/-- An expression's own level. -/
def levelS (op : Int) : Int := if op = 17 then 1 else if op = 16 then 2 else if op = 5 then 3 else if 10 ≤ op ∧ op ≤ 15 then 4 else if op = 8 ∨ op = 9 then 5 else 6
theorem level_c (op : Int) : PFun Tryz.prog 234 [iv op] [] (iv (levelS op)) [] := by
  refine fn_sem pok 26 0 Tryz.func234 (by kernel_rfl) rfl rfl rfl rfl ?_
  refine SWp.go pok (by kernel_rfl) ?_
  unfold levelS
  repeat' refine brP_split (fun h => ?_) (fun h => ?_)
  all_goals
    refine fin1 (dint ?_)
    simp at *
    try omega
theorem levelS_le (op : Int) : 1 ≤ levelS op ∧ levelS op ≤ 6 := by unfold levelS; repeat' split <;> omega
def leftS (op : Int) : Int := if levelS op = 4 then 5 else levelS op
def rightS (op : Int) : Int := if levelS op = 4 then 5 else levelS op + 1
theorem sides_c (op : Int) : PFun Tryz.prog 235 [iv op] [] (.agg [iv (leftS op), iv (rightS op)]) [] := by
  refine fn_sem pok 13 0 Tryz.func235 (by kernel_rfl) rfl rfl rfl rfl ?_
  refine SWp.go pok (by kernel_rfl) ?_
  refine PFun.call (level_c op) ?_
  have hb := levelS_le op
  refine brP_split (fun h => ?_) (fun h => ?_)
  · have h : levelS op = 4 := by simpa using h
    refine fin1 ?_
    unfold leftS rightS
    rw [if_pos h, if_pos h]
  · have h : ¬ levelS op = 4 := by simpa using h
    refine fin1 ?_
    unfold leftS rightS
    rw [if_neg h, if_neg h, wrap_in (show R64 (levelS op + 1) by unfold R64; omega)]
/-- The signs between two parts. -/
def signL : List (Int × Str) := [(8, [43]), (9, [45]), (10, [61, 61]), (11, [33, 61]), (12, [60]), (13, [60, 61]), (14, [62]), (15, [62, 61]), (16, [38, 38]), (17, [124, 124])]
def signO : Ob := .mp [iv 8, iv 9, iv 10, iv 11, iv 12, iv 13, iv 14, iv 15, iv 16, iv 17] [sv' [43], sv' [45], sv' [61, 61], sv' [33, 61], sv' [60], sv' [60, 61], sv' [62], sv' [62, 61], sv' [38, 38], sv' [124, 124]]
theorem signs_c : PFun Tryz.prog 236 [] [] (.map 0) [signO] := by
  refine fn_sem pok 3 0 Tryz.func236 (by kernel_rfl) rfl rfl rfl rfl ?_
  refine SWp.go pok (by kernel_rfl) ?_
  exact ⟨rfl, rfl⟩
/-- A pen: whether something was laid, the text, how deep it is. -/
def penO (u : Bool) (s : Str) (o : Int) : List Ob := [.bld 312 5 u s [iv o, .map 1], signO]
theorem pens_c : PFun Tryz.prog 208 [] [] (.ptr 0 0) (penO false [] 0) := by
  refine fn_sem pok 4 0 Tryz.func208 (by kernel_rfl) rfl rfl rfl rfl ?_
  refine SWp.go pok (by kernel_rfl) ?_
  refine PFun.call signs_c ?_
  exact ⟨rfl, rfl⟩
def strRows (l : List Str) : List (List D) := l.map fun s => [.str s]
theorem layp_c (l : List Str) (u : Bool) (s : Str) (o : Int) (hs : s.length + l.flatten.length ≤ 140737488355328) (hk : l.length < 1073741824) :
    PFun Tryz.prog 237 [.ptr 0 0, .d (.sl (strRows l))] (penO u s o) (.tup []) (penO (u || !l.isEmpty) (s ++ l.flatten) o) := by
  have hT : heads 312 2 := by unfold heads; kernel_rfl
  refine fn_sem pok 18 2 Tryz.func237 (by kernel_rfl) rfl rfl rfl rfl ?_
  refine SWp.go pok (by kernel_rfl) ?_
  refine SWp.loop (fun k : Nat => k ≤ l.length) (fun k => ([(0, .ptr 0 0), (6, .d (.sl (strRows l))), (7, iv l.length), (8, iv k)], penO (u || !(l.take k).isEmpty) (s ++ (l.take k).flatten) o)) (fun k => l.length - k) 0 (Nat.zero_le _) (.inr ⟨[0, 1], ⟨rfl, rfl⟩, by simp [penO]; rfl, rfl, rfl, sint (by unfold strRows; rw [List.length_map]), rfl, trivial⟩) (fun k hk' => ?_)
  refine SWp.go pok (by kernel_rfl) ?_
  refine brP_split (fun h => ?_) (fun h => ?_)
  · have hlt : k < l.length := by simpa using h
    refine PIdx.map (get_at hlt) ?_
    have e : (l.take (k + 1)).flatten = (l.take k).flatten ++ l[k] := by rw [List.take_succ_eq_append_getElem hlt, List.flatten_append, List.flatten_cons, List.flatten_nil, List.append_nil]
    have e2 : (l.take (k + 1)).isEmpty = false := by cases l with | nil => simp at hlt | cons a l => rfl
    have hle : (l.take (k + 1)).flatten.length ≤ l.flatten.length := by
      have := congrArg (fun x => (List.flatten x).length) (List.take_append_drop (k + 1) l)
      simp only [List.flatten_append, List.length_append] at this
      omega
    rw [e, List.length_append] at hle
    have c := wrStr_c 312 (u || !(l.take k).isEmpty) (s ++ (l.take k).flatten) [iv o, .map 1] l[k] hT (by rw [List.length_append]; omega) [signO]
    refine PFun.call c ?_
    refine ⟨k + 1, hlt, by omega, .inr ⟨[0, 1], ⟨rfl, rfl⟩, ?_, rfl, rfl, rfl, sint (wrap_nat k (by omega)), trivial⟩⟩
    simp only [penO, e, e2, Bool.not_false, Bool.or_true, List.append_assoc]
    rfl
  · have hge : k = l.length := by simp at h; omega
    subst hge
    rw [List.take_length]
    exact ⟨rfl, rfl⟩
end Go.Proofs.YtblnfodnkacbbaaGreatDoor.Q

namespace Go.Proofs.YtblnfodnkacbbaaGreatDoor.Q
open Go.RowKit
variable [Amb] [Pow]
theorem number_c (n : Int) (hn : R64 n) (u : Bool) (s : Str) (o : Int) (hl : s.length + (Lib.itoa n).length ≤ 140737488355328) :
    PFun Tryz.prog 238 [.ptr 0 0, iv n] (penO u s o) (.tup []) (penO true (s ++ Lib.itoa n) o) := by
  have hT : heads 312 2 := by unfold heads; kernel_rfl
  refine fn_sem pok 10 2 Tryz.func238 (by kernel_rfl) rfl rfl rfl rfl ?_
  refine SWp.go pok (by kernel_rfl) ?_
  refine ⟨_, _, formatInt_c n hn, ?_⟩
  refine ⟨_, _, wrStr_c 312 u s [iv o, .map 1] (Lib.itoa n) hT hl [signO], ?_⟩
  exact ⟨rfl, rfl⟩
theorem put1_c (x : Str) (u : Bool) (s : Str) (o : Int) (hl : s.length + x.length ≤ 140737488355328) :
    PFun Tryz.prog 237 [.ptr 0 0, .d (.sl [[.str x]])] (penO u s o) (.tup []) (penO true (s ++ x) o) := by
  have := layp_c [x] u s o (by simpa using hl) (by simp)
  simpa [strRows] using this
theorem put3_c (x y z : Str) (u : Bool) (s : Str) (o : Int) (hl : s.length + (x.length + (y.length + z.length)) ≤ 140737488355328) :
    PFun Tryz.prog 237 [.ptr 0 0, .d (.sl [[.str x], [.str y], [.str z]])] (penO u s o) (.tup []) (penO true (s ++ (x ++ (y ++ z))) o) := by
  have := layp_c [x, y, z] u s o (by simpa using hl) (by simp)
  simpa [strRows] using this
/-! ### what is laid -/
def signOf (op : Int) : Str := ((signL.find? fun p => p.1 == op).map (·.2)).getD []
/-- A text of a level, at a level. -/
def atL (p : Int × Str) (lv : Int) : Str := if p.1 < lv then [40] ++ (p.2 ++ [41]) else p.2
def kidAt (bs : List (Int × Str)) (k : Nat) (lv : Int) : Str := atL (bs.getD k (6, [])) lv
def bareK (op : Int) (mon name : Str) (n : Int) (bs : List (Int × Str)) : Str :=
  if op = 1 then Lib.itoa n else if op = 2 then [116, 114, 117, 101] else if op = 3 then [102, 97, 108, 115, 101] else if op = 4 then mon ++ ([46] ++ name) else
  if op = 5 then [33] ++ kidAt bs 0 3 else if op = 6 then [45] ++ kidAt bs 0 6 else if op = 7 then Lib.itoa n ++ ([32, 42, 32] ++ kidAt bs 0 6) else
  kidAt bs 0 (leftS op) ++ (([32] ++ (signOf op ++ [32])) ++ kidAt bs 1 (rightS op))
mutual
def Ex.bare : Ex → Str
  | ⟨op, mon, name, n, kids, _⟩ => bareK op mon name n (Ex.bares kids)
def Ex.bares : List Ex → List (Int × Str)
  | [] => []
  | a :: r => (levelS a.op, a.bare) :: Ex.bares r
end
/-- An expression's text at a level. -/
def Ex.pr (e : Ex) (lv : Int) : Str := atL (levelS e.op, e.bare) lv
structure PrOk (e : Ex) : Prop where
  part : ∀ y ∈ e.pre, isPartS y = true
  num : ∀ y ∈ e.pre, R64 y.n
theorem PrOk.kid {e : Ex} (h : PrOk e) {y : Ex} (hy : y ∈ e.kids) : PrOk y := by
  have hs : ∀ z ∈ y.pre, z ∈ e.pre := fun z hz => by
    rw [e.pre_eq, Ex.pres_map]
    exact List.mem_cons_of_mem _ (List.mem_flatMap.2 ⟨y, hy, hz⟩)
  exact ⟨fun z hz => h.part z (hs z hz), fun z hz => h.num z (hs z hz)⟩
theorem PrOk.self {e : Ex} (h : PrOk e) : (e.kids.length : Int) = partsS e.op ∧ R64 e.n := by
  have hm : e ∈ e.pre := by rw [e.pre_eq]; simp
  have h1 := h.part e hm
  unfold isPartS at h1
  simp only [Bool.and_eq_true] at h1
  exact ⟨by simpa using h1.1.1, h.num e hm⟩
theorem PrOk.op {e : Ex} (h : PrOk e) : 1 ≤ e.op ∧ e.op ≤ 17 := by
  have h1 := h.self.1
  unfold partsS at h1
  split at h1
  · omega
  split at h1
  · omega
  · rename_i h2 h3
    refine ⟨?_, by omega⟩
    rcases Int.lt_or_le 0 e.op with h4 | h4
    · omega
    · have : e.op = 0 := by omega
      rw [this] at h1
      simp [partsL] at h1
theorem PIdx.exz {l : List Ex} {z : Int} {k : Nat} {y : Ex} {K : List D → Prop} (hz : z = k) (h : l[k]? = some y) (c : K [.int .i64 y.op, .str y.mon, .str y.name, .int .i64 y.n, .sl (y.kids.map Ex.e), .int .i64 y.pl]) : PIdx (l.map Ex.e) z K := PIdx.map' hz h (by rw [Ex.e_row]; exact c)
theorem kid0 (a : Ex) (r : List Ex) (lv : Int) : kidAt (Ex.bares (a :: r)) 0 lv = a.pr lv := by rw [Ex.bares]; rfl
theorem kid1 (a b : Ex) (r : List Ex) (lv : Int) : kidAt (Ex.bares (a :: b :: r)) 1 lv = b.pr lv := by rw [Ex.bares, Ex.bares]; rfl
theorem len1 {kids : List Ex} {op : Int} (hk : (kids.length : Int) = partsS op) (h : partsS op = 1) : ∃ a, kids = [a] := by
  rw [h] at hk
  exact List.length_eq_one_iff.1 (by omega)
/-- What the pen does at an expression. -/
def Lays (e : Ex) (lv : Int) : Prop := ∀ (u : Bool) (s : Str) (o : Int), s.length + (e.pr lv).length ≤ 140737488355328 → PFun Tryz.prog 209 [.ptr 0 0, e.v, iv lv] (penO u s o) (.tup []) (penO true (s ++ e.pr lv) o)
theorem bare_c (e : Ex) (he : PrOk e) (ih : ∀ y ∈ e.kids, ∀ lv, Lays y lv) (lv : Int) (hlv : ¬ levelS e.op < lv) : Lays e lv := by
  intro u s o hl
  obtain ⟨hk, hn⟩ := he.self
  obtain ⟨o1, o2⟩ := he.op
  unfold Ex.pr atL at hl ⊢
  rw [if_neg hlv] at hl ⊢
  obtain ⟨op, mon, name, n, kids, pl⟩ := e
  dsimp only at *
  unfold Ex.bare at hl ⊢
  refine fn_sem pok 114 2 Tryz.func209 (by kernel_rfl) rfl rfl rfl rfl ?_
  refine SWp.go pok (by kernel_rfl) ?_
  refine PFun.call (level_c op) ?_
  refine brP_false (decide_eq_false hlv) ?_
  have hop : op = 1 ∨ op = 2 ∨ op = 3 ∨ op = 4 ∨ op = 5 ∨ op = 6 ∨ op = 7 ∨ op = 8 ∨ op = 9 ∨ op = 10 ∨ op = 11 ∨ op = 12 ∨ op = 13 ∨ op = 14 ∨ op = 15 ∨ op = 16 ∨ op = 17 := by omega
  rcases hop with rfl | rfl | rfl | rfl | rfl | rfl | rfl | hop
  · refine PFun.call (number_c n hn u s o hl) ?_
    exact ⟨rfl, rfl⟩
  · refine PFun.call (put1_c _ u s o hl) ?_
    exact ⟨rfl, rfl⟩
  · refine PFun.call (put1_c _ u s o hl) ?_
    exact ⟨rfl, rfl⟩
  · have e1 : bareK 4 mon name n (Ex.bares kids) = mon ++ ([46] ++ name) := rfl
    rw [e1] at hl
    simp only [List.length_append] at hl
    refine PFun.call (put3_c mon [46] name u s o hl) ?_
    exact ⟨rfl, rfl⟩
  · obtain ⟨a, rfl⟩ := len1 hk (by decide)
    have e1 : bareK 5 mon name n (Ex.bares [a]) = [33] ++ a.pr 3 := by rw [← kid0 a [] 3]; rfl
    rw [e1] at hl
    simp only [List.length_append] at hl
    refine PFun.call (put1_c [33] u s o (by omega)) ?_
    refine PIdx.exz (k := 0) rfl rfl ?_
    refine PFun.call (ih a (by simp) 3 true (s ++ [33]) o (by simp only [List.length_append]; omega)) ?_
    exact ⟨rfl, by rw [e1, List.append_assoc]; rfl⟩
  · obtain ⟨a, rfl⟩ := len1 hk (by decide)
    have e1 : bareK 6 mon name n (Ex.bares [a]) = [45] ++ a.pr 6 := by rw [← kid0 a [] 6]; rfl
    rw [e1] at hl
    simp only [List.length_append] at hl
    refine PFun.call (put1_c [45] u s o (by omega)) ?_
    refine PIdx.exz (k := 0) rfl rfl ?_
    refine PFun.call (ih a (by simp) 6 true (s ++ [45]) o (by simp only [List.length_append]; omega)) ?_
    exact ⟨rfl, by rw [e1, List.append_assoc]; rfl⟩
  · obtain ⟨a, rfl⟩ := len1 hk (by decide)
    have e1 : bareK 7 mon name n (Ex.bares [a]) = Lib.itoa n ++ ([32, 42, 32] ++ a.pr 6) := by rw [← kid0 a [] 6]; rfl
    rw [e1] at hl
    simp only [List.length_append] at hl
    refine PFun.call (number_c n hn u s o (by omega)) ?_
    refine PFun.call (put1_c [32, 42, 32] true (s ++ Lib.itoa n) o (by simp only [List.length_append]; omega)) ?_
    refine PIdx.exz (k := 0) rfl rfl ?_
    refine PFun.call (ih a (by simp) 6 true (s ++ Lib.itoa n ++ [32, 42, 32]) o (by simp only [List.length_append]; omega)) ?_
    exact ⟨rfl, by rw [e1]; simp only [List.append_assoc]; rfl⟩
  obtain ⟨a, b, rfl⟩ : ∃ a b, kids = [a, b] := by
    have h2 : partsS op = 2 := by
      rcases hop with rfl | rfl | rfl | rfl | rfl | rfl | rfl | rfl | rfl | rfl <;> decide
    match kids, hk with
    | [a, b], _ => exact ⟨a, b, rfl⟩
    | [], hk => rw [h2] at hk; simp at hk
    | [a], hk => rw [h2] at hk; simp at hk
    | a :: b :: c :: r, hk => rw [h2] at hk; simp at hk; omega
  have e1 : bareK op mon name n (Ex.bares [a, b]) = a.pr (leftS op) ++ (([32] ++ (signOf op ++ [32])) ++ b.pr (rightS op)) := by
    rw [← kid0 a [b], ← kid1 a b []]
    rcases hop with rfl | rfl | rfl | rfl | rfl | rfl | rfl | rfl | rfl | rfl <;> rfl
  rw [e1] at hl ⊢
  clear e1
  have l1 : s.length + (a.pr (leftS op)).length ≤ 140737488355328 := by simp only [List.length_append] at hl; omega
  have l2 : (s ++ a.pr (leftS op)).length + (([32] : Str).length + ((signOf op).length + ([32] : Str).length)) ≤ 140737488355328 := by simp only [List.length_append] at hl ⊢; omega
  have l3 : (s ++ a.pr (leftS op) ++ ([32] ++ (signOf op ++ [32]))).length + (b.pr (rightS op)).length ≤ 140737488355328 := by simp only [List.length_append] at hl ⊢; omega
  have c1 := ih a (by simp) (leftS op) u s o l1
  have c2 := put3_c [32] (signOf op) [32] true (s ++ a.pr (leftS op)) o l2
  have c3 := ih b (by simp) (rightS op) true (s ++ a.pr (leftS op) ++ ([32] ++ (signOf op ++ [32]))) o l3
  have e2 : penO true (s ++ a.pr (leftS op) ++ ([32] ++ (signOf op ++ [32])) ++ b.pr (rightS op)) o = penO true (s ++ (a.pr (leftS op) ++ (([32] ++ (signOf op ++ [32])) ++ b.pr (rightS op)))) o := by simp only [List.append_assoc]
  rw [← e2]
  have c0 := sides_c op
  generalize a.pr (leftS op) = A at c1 c2 c3 ⊢
  generalize b.pr (rightS op) = B at c3 ⊢
  rcases hop with rfl | rfl | rfl | rfl | rfl | rfl | rfl | rfl | rfl | rfl
  all_goals
    refine PFun.call c0 ?_
    refine PIdx.exz (k := 0) rfl rfl ?_
    refine ⟨by decide, ?_⟩
    refine ⟨_, _, c1, ?_⟩
    refine .inl ?_
    refine ⟨_, _, c2, ?_⟩
    refine PIdx.exz (k := 1) rfl rfl ?_
    refine ⟨by decide, ?_⟩
    refine ⟨_, _, c3, ?_⟩
    exact ⟨rfl, rfl⟩
theorem pexpr_c (N : Nat) : ∀ (e : Ex), e.pre.length ≤ N → PrOk e → ∀ lv, Lays e lv := by
  induction N with
  | zero => intro e h; have := e.pre_pos; omega
  | succ N ih =>
    intro e hN he lv
    have hkid : ∀ y ∈ e.kids, ∀ lv, Lays y lv := fun y hy => ih y (by have := e.pre_kid hy; omega) (he.kid hy)
    by_cases hlv : levelS e.op < lv
    · intro u s o hl
      have hb := bare_c e he hkid 1 (by have := levelS_le e.op; omega)
      have e1 : e.pr 1 = e.bare := by unfold Ex.pr atL; rw [if_neg (by have := levelS_le e.op; show ¬ levelS e.op < 1; omega)]
      have e2 : e.pr lv = [40] ++ (e.bare ++ [41]) := by unfold Ex.pr atL; rw [if_pos hlv]
      unfold Lays at hb
      rw [e1] at hb
      rw [e2] at hl ⊢
      simp only [List.length_append] at hl
      refine fn_sem pok 114 2 Tryz.func209 (by kernel_rfl) rfl rfl rfl rfl ?_
      refine SWp.go pok (by kernel_rfl) ?_
      refine PFun.call (level_c e.op) ?_
      refine brP_true (decide_eq_true hlv) ?_
      refine PFun.call (put1_c [40] u s o (by omega)) ?_
      refine PFun.call (hb true (s ++ [40]) o (by simp only [List.length_append]; omega)) ?_
      refine PFun.call (put1_c [41] true (s ++ [40] ++ e.bare) o (by simp only [List.length_append]; omega)) ?_
      exact ⟨rfl, by simp only [List.append_assoc]; rfl⟩
    · exact bare_c e he hkid lv hlv
end Go.Proofs.YtblnfodnkacbbaaGreatDoor.Q

namespace Go.Proofs.YtblnfodnkacbbaaGreatDoor.Q
open Go.RowKit
variable [Amb] [Pow]
def atN (p : Int × Int) (lv : Int) : Int := if p.1 < lv then 1 + p.2 else p.2
def bnK (op : Int) (ns : List (Int × Int)) : Int := match ns with
  | [] => 0
  | [a] => 1 + atN a (if op = 5 then 3 else 6)
  | a :: b :: _ => max (atN a (leftS op)) (atN b (rightS op))
mutual
def Ex.bn : Ex → Int
  | ⟨op, mon, name, n, kids, _⟩ => bnK op (Ex.bns kids)
def Ex.bns : List Ex → List (Int × Int)
  | [] => []
  | a :: r => (levelS a.op, a.bn) :: Ex.bns r
end
/-- How deep an expression's text is at a level. -/
def Ex.ns (e : Ex) (lv : Int) : Int := atN (levelS e.op, e.bn) lv
theorem PrOk.shape {e : Ex} (h : PrOk e) : (e.kids = [] ∧ e.op ≤ 4) ∨ (∃ a, e.kids = [a] ∧ 5 ≤ e.op ∧ e.op ≤ 7) ∨ ∃ a b, e.kids = [a, b] ∧ 8 ≤ e.op := by
  obtain ⟨hk, _⟩ := h.self
  obtain ⟨o1, o2⟩ := h.op
  generalize e.kids = kids at hk ⊢
  generalize e.op = op at hk o1 o2 ⊢
  have hop : op = 1 ∨ op = 2 ∨ op = 3 ∨ op = 4 ∨ op = 5 ∨ op = 6 ∨ op = 7 ∨ op = 8 ∨ op = 9 ∨ op = 10 ∨ op = 11 ∨ op = 12 ∨ op = 13 ∨ op = 14 ∨ op = 15 ∨ op = 16 ∨ op = 17 := by omega
  have z : ∀ {n : Nat}, (kids.length : Int) = n → kids.length = n := fun h => by omega
  rcases hop with rfl | rfl | rfl | rfl | rfl | rfl | rfl | hop
  iterate 4 exact .inl ⟨List.eq_nil_of_length_eq_zero (z hk), by decide⟩
  iterate 3
    obtain ⟨a, rfl⟩ := len1 hk (by decide)
    exact .inr (.inl ⟨a, rfl, by decide, by decide⟩)
  have h2 : partsS op = 2 := by
    rcases hop with rfl | rfl | rfl | rfl | rfl | rfl | rfl | rfl | rfl | rfl <;> decide
  rw [h2] at hk
  match kids, hk with
  | [a, b], _ => exact .inr (.inr ⟨a, b, rfl, by omega⟩)
  | [], hk => simp at hk
  | [a], hk => simp at hk
  | a :: b :: c :: r, hk => simp at hk; omega
theorem ns_bound (N : Nat) : ∀ (e : Ex), e.pre.length ≤ N → PrOk e → 0 ≤ e.bn ∧ e.bn + 2 ≤ 2 * e.pre.length := by
  induction N with
  | zero => intro e h; have := e.pre_pos; omega
  | succ N ih =>
    intro e hN he
    have hk : ∀ y ∈ e.kids, ∀ lv, 0 ≤ y.ns lv ∧ y.ns lv + 1 ≤ 2 * y.pre.length := fun y hy lv => by
      have := ih y (by have := e.pre_kid hy; omega) (he.kid hy)
      unfold Ex.ns atN
      split <;> dsimp only <;> omega
    have hp : ∀ y ∈ e.kids, y.pre.length + 1 ≤ e.pre.length := fun y hy => e.pre_kid hy
    have hsh := he.shape
    have h0 := e.pre_pos
    obtain ⟨op, mon, name, n, kids, pl⟩ := e
    dsimp only at *
    rw [Ex.bn]
    rcases hsh with ⟨rfl, _⟩ | ⟨a, rfl, _⟩ | ⟨a, b, rfl, _⟩
    · rw [Ex.bns]
      show 0 ≤ (0 : Int) ∧ (0 : Int) + 2 ≤ _
      omega
    · rw [Ex.bns, Ex.bns]
      have h1 := hk a (by simp) (if op = 5 then 3 else 6)
      have h2 := hp a (by simp)
      show 0 ≤ 1 + a.ns (if op = 5 then 3 else 6) ∧ 1 + a.ns (if op = 5 then 3 else 6) + 2 ≤ _
      omega
    · rw [Ex.bns, Ex.bns, Ex.bns]
      have h1 := hk a (by simp) (leftS op)
      have h2 := hp a (by simp)
      have h3 := hk b (by simp) (rightS op)
      have h4 := hp b (by simp)
      show 0 ≤ max (a.ns (leftS op)) (b.ns (rightS op)) ∧ max (a.ns (leftS op)) (b.ns (rightS op)) + 2 ≤ _
      omega
def Nests (e : Ex) (lv : Int) : Prop := PFun Tryz.prog 207 [e.v, iv lv] [] (iv (e.ns lv)) []
theorem bnest_c (e : Ex) (he : PrOk e) (hf : e.pre.length < 1073741824) (ih : ∀ y ∈ e.kids, ∀ lv, Nests y lv) (lv : Int) (hlv : ¬ levelS e.op < lv) : Nests e lv := by
  have hb := (ns_bound _ e (Nat.le_refl _) he)
  have hsh := he.shape
  have hk : ∀ y ∈ e.kids, ∀ lv, 0 ≤ y.ns lv ∧ y.ns lv < 4294967296 := fun y hy lv => by
    have h1 := ns_bound _ y (Nat.le_refl _) (he.kid hy)
    have h2 := e.pre_kid hy
    unfold Ex.ns atN
    split <;> dsimp only <;> omega
  unfold Nests Ex.ns atN
  rw [if_neg hlv]
  obtain ⟨op, mon, name, n, kids, pl⟩ := e
  dsimp only at *
  rw [Ex.bn]
  refine fn_sem pok 59 0 Tryz.func207 (by kernel_rfl) rfl rfl rfl rfl ?_
  refine SWp.go pok (by kernel_rfl) ?_
  refine PFun.call (level_c op) ?_
  refine brP_false (decide_eq_false hlv) ?_
  rcases hsh with ⟨rfl, ho⟩ | ⟨a, rfl, ho⟩ | ⟨a, b, rfl, ho⟩
  · rw [Ex.bns]
    exact fin1 rfl
  · rw [Ex.bns, Ex.bns]
    refine brP_split (fun h => ?_) (fun h => ?_)
    · have h : op = 5 := by simpa using h
      subst h
      refine PIdx.exz (k := 0) rfl rfl ?_
      refine PFun.call (ih a (by simp) 3) ?_
      have := hk a (by simp) 3
      exact fin1 (dint (wrap_in (show R64 (1 + a.ns 3) by unfold R64; omega)))
    · have h : ¬ op = 5 := by simpa using h
      refine PIdx.exz (k := 0) rfl rfl ?_
      refine PFun.call (ih a (by simp) 6) ?_
      have := hk a (by simp) 6
      refine fin1 (dint ?_)
      rw [wrap_in (show R64 (1 + a.ns 6) by unfold R64; omega)]
      show _ = 1 + a.ns (if op = 5 then 3 else 6)
      rw [if_neg h]
  · rw [Ex.bns, Ex.bns, Ex.bns]
    have h5 : (op == 5) = false := by simp; omega
    repeat refine brP_false h5 ?_
    refine PFun.call (sides_c op) ?_
    refine PIdx.exz (k := 0) rfl rfl ?_
    refine ⟨by decide, ?_⟩
    refine ⟨_, _, ih a (by simp) (leftS op), ?_⟩
    refine PIdx.exz (k := 1) rfl rfl ?_
    refine ⟨by decide, ?_⟩
    refine ⟨_, _, ih b (by simp) (rightS op), ?_⟩
    refine fin1 (dint ?_)
    show maxI (a.ns (leftS op)) [b.ns (rightS op)] = max (a.ns (leftS op)) (b.ns (rightS op))
    simp only [maxI]
    try split
    all_goals omega
theorem nest_c (N : Nat) : ∀ (e : Ex), e.pre.length ≤ N → e.pre.length < 1073741824 → PrOk e → ∀ lv, Nests e lv := by
  induction N with
  | zero => intro e h; have := e.pre_pos; omega
  | succ N ih =>
    intro e hN hf he lv
    have hkid : ∀ y ∈ e.kids, ∀ lv, Nests y lv := fun y hy => by
      have := e.pre_kid hy
      exact ih y (by omega) (by omega) (he.kid hy)
    by_cases hlv : levelS e.op < lv
    · have hl := levelS_le e.op
      have hb := bnest_c e he hf hkid 1 (by omega)
      have hbd := ns_bound _ e (Nat.le_refl _) he
      unfold Nests Ex.ns atN at hb ⊢
      rw [if_neg (by show ¬ levelS e.op < 1; omega)] at hb
      rw [if_pos hlv]
      refine fn_sem pok 59 0 Tryz.func207 (by kernel_rfl) rfl rfl rfl rfl ?_
      refine SWp.go pok (by kernel_rfl) ?_
      refine PFun.call (level_c e.op) ?_
      refine brP_true (decide_eq_true hlv) ?_
      refine PFun.call hb ?_
      exact fin1 (dint (wrap_in (show R64 (1 + e.bn) by unfold R64; omega)))
    · exact bnest_c e he hf hkid lv hlv
/-- A text, if it is not too long. -/
def toldS (x : Str) : Str × Int := if x.length > 20000 then ([], 1) else (x, 0)
theorem told_c (x : Str) : PFun Tryz.prog 210 [sv' x] [] (.tup [sv' (toldS x).1, iv (toldS x).2]) [] := by
  refine fn_sem pok 8 0 Tryz.func210 (by kernel_rfl) rfl rfl rfl rfl ?_
  refine SWp.go pok (by kernel_rfl) ?_
  unfold toldS
  refine brP_split (fun h => ?_) (fun h => ?_)
  · rw [if_pos (by simp at h; omega)]
    exact fin1 rfl
  · rw [if_neg (by simp at h; omega)]
    exact fin1 rfl
/-- An expression as a text. -/
def exprP (e : Ex) : Str × Int := if checkS e ≠ 0 then ([], checkS e) else if e.ns 1 > 64 then ([], 41) else toldS (e.pr 1)
theorem checkS_ok {e : Ex} (h : checkS e = 0) (hn : ∀ y ∈ e.pre, R64 y.n) : PrOk e := by
  unfold checkS at h
  cases hall : e.pre.all isPartS with
  | true => exact ⟨List.all_eq_true.1 hall, hn⟩
  | false => rw [hall] at h; exact absurd h (by decide)
theorem printExpr_c (e : Ex) (hf : e.fits) (hn : ∀ y ∈ e.pre, R64 y.n) (hl : PrOk e → (e.pr 1).length ≤ 140737488355328) : PFun Tryz.prog 163 [e.v] [] (.tup [sv' (exprP e).1, iv (exprP e).2]) [] := by
  refine fn_sem pok 25 0 Tryz.func163 (by kernel_rfl) rfl rfl rfl rfl ?_
  refine SWp.go pok (by kernel_rfl) ?_
  refine PFun.call (checkExpr_c e hf) ?_
  unfold exprP
  refine brP_split (fun h => ?_) (fun h => ?_)
  · have h : checkS e ≠ 0 := by simpa using h
    rw [if_pos h]
    exact fin1 rfl
  have h : checkS e = 0 := by simpa using h
  rw [if_neg (fun k => k h)]
  have he := checkS_ok h hn
  have hnest := nest_c _ e (Nat.le_refl _) hf.1 he 1
  unfold Nests at hnest
  refine PFun.call hnest ?_
  refine brP_split (fun h2 => ?_) (fun h2 => ?_)
  · have h2 : e.ns 1 > 64 := by simpa using h2
    rw [if_pos h2]
    exact fin1 rfl
  have h2 : ¬ e.ns 1 > 64 := by simp at h2; omega
  rw [if_neg h2]
  have hp := pexpr_c _ e (Nat.le_refl _) he 1 false [] 0 (by simpa using hl he)
  rw [List.nil_append] at hp
  refine PFun.call pens_c ?_
  refine PFun.call hp ?_
  refine PFun.call (string_c 312 true (e.pr 1) [iv 0, .map 1] [signO]) ?_
  refine PFun.call (told_c (e.pr 1)) ?_
  exact fin1 rfl
def nestP (e : Ex) : Int := if checkS e ≠ 0 then 0 else e.ns 1
end Go.Proofs.YtblnfodnkacbbaaGreatDoor.Q
