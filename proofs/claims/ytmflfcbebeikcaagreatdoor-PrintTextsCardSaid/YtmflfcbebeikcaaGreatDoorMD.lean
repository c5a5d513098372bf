/- Numbers as texts; a text builder's methods; the table of powers. No condition. -/
import Derived.Shelf.Strconv.Itoa4
import Derived.KernelRfl
import Derived.Test.YtmflfcbebeikcaaGreatDoorProg
import Derived.Test.YtmflfcbebeikcaaGreatDoorMK
import Derived.Test.YtmflfcbebeikcaaGreatDoorMB
import Derived.Test.YtmflfcbebeikcaaGreatDoorMA
import Derived.Lib.FrozenHead2
import Derived.Lib.AppendStr
import Derived.Lib.Builder
import Derived.Lib.FrozenHead
import Derived.Lib.UnsafeStr
import Derived.WalkKit
import Derived.Test.YtmflfcbebeikcaaGreatDoorRows
import Derived.Test.YtmflfcbebeikcaaGreatDoorMR
import Derived.Stop.LaidErr
import Derived.Stop.Joined
import Derived.Lib.LaidTab
import Derived.LaidHandle
import Derived.OpenVars
set_option maxRecDepth 100000
namespace Go.Proofs
open Go.Shelf
def Tryz.lays173_ren : Go.Shelf.Ren := ⟨fun | 173 => 88 | 246 => 128 | 283 => 151 | 284 => 152 | 285 => 153 | 286 => 154 | 129 => 164 | 317 => 163 | 318 => 165 | 319 => 166 | 320 => 167 | 337 => 169 | 338 => 170 | n => n, fun | 2 => 2 | 3 => 3 | 9 => 9 | 4 => 4 | 171 => 197 | 0 => 0 | 53 => 198 | 37 => 69 | 5 => 5 | 173 => 201 | 212 => 212 | 51 => 213 | 20 => 20 | 213 => 214 | 46 => 216 | 232 => 219 | 233 => 220 | n => n, fun | 17 => 0 | 18 => 2 | 19 => 3 | n => n⟩
theorem Tryz.lays173 : LaysM.n173 Tryz.prog Tryz.lays173_ren where
  mixed := by kernel_rfl
  f129 := Tryz.func164.trans (congrArg some (by kernel_rfl))
  f173 := Tryz.func88.trans (congrArg some (by kernel_rfl))
  f246 := Tryz.func128.trans (congrArg some (by kernel_rfl))
  f283 := Tryz.func151.trans (congrArg some (by kernel_rfl))
  f284 := Tryz.func152.trans (congrArg some (by kernel_rfl))
  f285 := Tryz.func153.trans (congrArg some (by kernel_rfl))
  f286 := Tryz.func154.trans (congrArg some (by kernel_rfl))
  f317 := Tryz.func163.trans (congrArg some (by kernel_rfl))
  f318 := Tryz.func165.trans (congrArg some (by kernel_rfl))
  f319 := Tryz.func166.trans (congrArg some (by kernel_rfl))
  f320 := Tryz.func167.trans (congrArg some (by kernel_rfl))
  f337 := Tryz.func169.trans (congrArg some (by kernel_rfl))
  f338 := Tryz.func170.trans (congrArg some (by kernel_rfl))
  t0 := Tryz.underlying0
  a0 := Tryz.isAgg0
  z0 := Tryz.sizeOf0
  v0 := Tryz.zeroValue0
  t2 := Tryz.underlying2
  a2 := Tryz.isAgg2
  z2 := Tryz.sizeOf2
  v2 := Tryz.zeroValue2
  t3 := Tryz.underlying3
  a3 := Tryz.isAgg3
  z3 := Tryz.sizeOf3
  v3 := Tryz.zeroValue3
  t4 := Tryz.underlying4
  a4 := Tryz.isAgg4
  z4 := Tryz.sizeOf4
  v4 := Tryz.zeroValue4
  t5 := Tryz.underlying5
  a5 := Tryz.isAgg5
  z5 := Tryz.sizeOf5
  v5 := Tryz.zeroValue5
  t9 := Tryz.underlying9
  a9 := Tryz.isAgg9
  z9 := Tryz.sizeOf9
  v9 := Tryz.zeroValue9
  t20 := Tryz.underlying20
  a20 := Tryz.isAgg20
  z20 := Tryz.sizeOf20
  v20 := Tryz.zeroValue20
  t37 := Tryz.underlying69
  a37 := Tryz.isAgg69
  z37 := Tryz.sizeOf69
  v37 := Tryz.zeroValue69
  t46 := Tryz.underlying216
  a46 := Tryz.isAgg216
  z46 := Tryz.sizeOf216
  v46 := Tryz.zeroValue216
  t51 := Tryz.underlying213
  a51 := Tryz.isAgg213
  z51 := Tryz.sizeOf213
  v51 := Tryz.zeroValue213
  t53 := Tryz.underlying198
  a53 := Tryz.isAgg198
  z53 := Tryz.sizeOf198
  v53 := Tryz.zeroValue198
  t171 := Tryz.underlying197
  a171 := Tryz.isAgg197
  z171 := Tryz.sizeOf197
  v171 := Tryz.zeroValue197
  t173 := Tryz.underlying201
  a173 := Tryz.isAgg201
  z173 := Tryz.sizeOf201
  v173 := Tryz.zeroValue201
  t212 := Tryz.underlying212
  a212 := Tryz.isAgg212
  z212 := Tryz.sizeOf212
  v212 := Tryz.zeroValue212
  t213 := Tryz.underlying214
  a213 := Tryz.isAgg214
  z213 := Tryz.sizeOf214
  t232 := Tryz.underlying219
  a232 := Tryz.isAgg219
  z232 := Tryz.sizeOf219
  v232 := Tryz.zeroValue219
  t233 := Tryz.underlying220
  a233 := Tryz.isAgg220
  z233 := Tryz.sizeOf220
  v233 := Tryz.zeroValue220
  g17 := by kernel_rfl
  g18 := by kernel_rfl
  g19 := by kernel_rfl
  i0 := by kernel_rfl
  i2 := by kernel_rfl
  i3 := by kernel_rfl
  i4 := by kernel_rfl
  i5 := by kernel_rfl
  i9 := by kernel_rfl
  i20 := by kernel_rfl
  i37 := by kernel_rfl
  i46 := by kernel_rfl
  i51 := by kernel_rfl
  i53 := by kernel_rfl
  i171 := by kernel_rfl
  i173 := by kernel_rfl
  i212 := by kernel_rfl
  i232 := by kernel_rfl
  i233 := by kernel_rfl
  m17 := by kernel_rfl
  m18 := by kernel_rfl
  m19 := by kernel_rfl
theorem Tryz.formatInt (n : Int) (h0 : -9223372036854775808 ≤ n) (h1 : n ≤ 9223372036854775807) (w : World) (htab : Lib.TabIs Tryz.prog w "internal/strconv.uint64pow10" .u64 Lib.pow10Tab) :
    Calls Tryz.prog 88 #[.int .i64 n, .int .i64 10] w fun e w' => e = .returned (.string ⟨(Lib.itoa n).toArray⟩) ∧ ∃ k os, w' = Sort.grow (w.drewN k) os := Any.strconv_FormatInt_10 Tryz.lays173 n h0 h1 w htab
end Go.Proofs

set_option linter.unusedVariables false
set_option linter.unusedSectionVars false
set_option linter.unnecessarySimpa false
set_option linter.unusedSimpArgs false
set_option maxHeartbeats 4000000
namespace Go.Proofs.YtmflfcbebeikcaaGreatDoor.Q
open Go.RowKit
/-- The table of powers of ten is among the blocks that never change. -/
class Pow [Amb] : Prop where
  tab : ∃ b, Tryz.prog.globalNamed "internal/strconv.uint64pow10" = some b ∧ (b, Lib.pow10Tab.map (Value.int .u64)) ∈ Amb.tabs
variable [Amb] [Pow]
theorem pow_is {G : Imm} {w : World} (h : Inv G w) : Lib.TabIs Tryz.prog w "internal/strconv.uint64pow10" .u64 Lib.pow10Tab := by
  obtain ⟨b, h1, h2⟩ := Pow.tab
  obtain ⟨_, ⟨T, fr, h3⟩, _⟩ := h.2 _ h2
  unfold Lib.TabIs World.var?
  rw [h1]
  show (match w.heap[b]? with
    | some (.cells cs _ _) => some cs
    | _ => none) = _
  rw [h3]
theorem Sit.growN {G : Imm} {w : World} {φ : Loc} {Hx : Hp} (hs : Sit G w φ Hx) (k : Nat) (os : Array Obj) : Sit G (Sort.grow (w.drewN k) os) φ Hx ∧ Goes G w φ Hx G (Sort.grow (w.drewN k) os) φ Hx := by
  have hold : ∀ b, b < w.heap.size → (Sort.grow (w.drewN k) os).heap[b]? = w.heap[b]? := fun b hb => Sort.heap_grow_old (w.drewN k) os hb
  refine hs.step (fun _ => False) (Imm.le.refl _) (Loc.le.refl _) (fun _ _ _ => rfl) rfl rfl rfl ?_ (fun b hb _ => ⟨hold b hb, fun _ => rfl⟩) (fun _ _ => rfl) ?_ ?_ ?_ ?_ ?_
  · rw [Sort.size_grow]; exact Nat.le_add_right _ _
  · refine hs.inv.of (Imm.le.refl _) (fun b cs T fr hb _ _ => hold b (Array.getElem?_eq_some_iff.1 hb).1) fun b o v hg => ?_
    have h1 := hs.inv b o v hg
    have hlt := World.block_lt_of_cell? w _ h1
    rw [Sort.cell?_grow (w.drewN k) os ⟨b, o, none⟩ hlt]
    exact h1
  all_goals (intros; contradiction)
theorem formatInt_c (n : Int) (hn : R64 n) : PFun Tryz.prog 88 [iv n, iv 10] [] (sv' (Lib.itoa n)) [] := by
  refine ⟨⟨_, Tryz.func88, by kernel_rfl, by kernel_rfl⟩, fun G w φ us hs hu => ?_⟩
  obtain ⟨v0, vs, rfl, hv0, v1, vs1, rfl, hv1, hvs⟩ := hu
  have hv0 : v0 = .int .i64 n := hv0
  have hv1 : v1 = .int .i64 10 := hv1
  have hvs : vs1 = [] := hvs
  subst hv0; subst hv1; subst hvs
  refine (Tryz.formatInt n hn.1 hn.2 w (pow_is hs.inv)).mono ?_
  rintro e w' ⟨rfl, k, os, rfl⟩
  obtain ⟨g1, g2⟩ := hs.growN k os
  exact ⟨_, _, _, G, φ, rfl, ⟨rfl, rfl⟩, Nat.le_refl _, g1, g2, rfl⟩
def boolS (b : Bool) : Str := match b with
  | true => [116, 114, 117, 101]
  | false => [102, 97, 108, 115, 101]
theorem formatBool_c (b : Bool) : PFun Tryz.prog 85 [.d (.bool b)] [] (sv' (boolS b)) [] := by
  have h1 : PFun Tryz.prog 125 [.d (.bool b)] [] (sv' (boolS b)) [] := by
    refine fn_sem pok 4 0 Tryz.func125 (by kernel_rfl) rfl rfl rfl rfl ?_
    refine SWp.go pok (by kernel_rfl) ?_
    refine brP_split (fun h => ?_) (fun h => ?_) <;> subst h <;> exact fin1 rfl
  refine fn_sem pok 5 0 Tryz.func85 (by kernel_rfl) rfl rfl rfl rfl ?_
  refine SWp.go pok (by kernel_rfl) ?_
  refine PFun.call h1 ?_
  exact fin1 rfl
end Go.Proofs.YtmflfcbebeikcaaGreatDoor.Q

namespace Go.Proofs.YtmflfcbebeikcaaGreatDoor.Q
open Go.Lib
variable {P : Program}
theorem add_zero' (b o : Nat) : (⟨b, o, none⟩ : Addr).add 0 = ⟨b, o, none⟩ := by unfold Addr.add; split <;> simp_all
theorem size_zero {s : ByteArray} (h : s.size = 0) : s = ByteArray.empty := by
  cases s with
  | mk d =>
    have h : d.size = 0 := h
    rw [Array.eq_empty_of_size_eq_zero h]; rfl
theorem ownsF_less {w : World} {base : Nat} {e : TypeId} {n : Nat} {v : Value} {xs : List Value} (h : w.ownsRowF base e 1 v n xs) : w.ownsRowF 0 e 1 v n xs := by
  refine ⟨h.1, ?_⟩
  rcases h.2 with hn | ⟨g, cap, cur, fz, hv, hb, rest⟩
  · exact .inl hn
  · exact .inr ⟨g, cap, cur, fz, hv, Nat.zero_le _, rest⟩
theorem ownsF_same {w w' : World} {e : TypeId} {n : Nat} {v : Value} {xs : List Value} (h : w.ownsRowF 0 e 1 v n xs) (k : ∀ g, v.ownBlock = some g → w'.heap[g]? = w.heap[g]?) : w'.ownsRowF 0 e 1 v n xs := by
  refine ⟨h.1, ?_⟩
  rcases h.2 with hn | ⟨g, cap, cur, fz, hv, hb, hg, rest⟩
  · exact .inl hn
  · exact .inr ⟨g, cap, cur, fz, hv, hb, by rw [k g (by rw [hv]; rfl)]; exact hg, rest⟩
/-- A text behind a row. -/
theorem app_str (w : World) (t u ty e : TypeId) (i : TypeInfo) (ht : P.underlying t = some (.slice e)) (hu : P.underlying u = some .string) (hi : P.info? e = some i) (hz : i.zero = some (.int .u8 0)) (hsize : i.size = 1) (hby : i.bytes = 1)
    (v : Value) (n : Nat) (xs : List Value) (hown : w.ownsRowF 0 e 1 v n xs) (s : ByteArray) (h63 : n + s.size ≤ maxLen) (hbytes : n + s.size ≤ 140737488355328) (hnil : n = 0 → v = .slice none 0 0) :
    ∃ v' w', (Builtin.append_ #[t, u] ty #[v, .string s]).run P w = .ok v' w' ∧ w'.ownsRowF 0 e 1 v' (n + s.size) (xs ++ strCells s) ∧ w.grownBy w' v.ownBlock ∧ (∀ g, v'.ownBlock = some g → v.ownBlock = some g ∨ w.heap.size ≤ g) ∧ (n + s.size = 0 → v' = .slice none 0 0) := by
  rcases hown.2 with ⟨rfl, rfl⟩ | ⟨g, cap, cur, fz, rfl, hbg, hg, hfz, hnc, hcm, hcs, htake⟩
  · obtain ⟨v', w', h1, h2, h3, h4⟩ := run_append_own_stringF (P := P) w w.heap.size t u ty e i ht hu hi hz hsize hby (.slice none 0 0) 0 xs ⟨hown.1, .inl ⟨rfl, rfl⟩⟩ s h63 hbytes (Nat.le_refl _)
    exact ⟨v', w', h1, ownsF_less h2, h3, fun g hg => .inr (h2.lt g hg).1, fun e => h4.2 ⟨rfl, by omega⟩⟩
  · obtain ⟨v', w', h1, h2, h3, _⟩ := run_append_own_stringF (P := P) w 0 t u ty e i ht hu hi hz hsize hby _ n xs hown s h63 hbytes (Nat.zero_le _)
    refine ⟨v', w', h1, h2, h3, fun k hk => ?_, fun e => by have := hnil (by omega); cases this⟩
    by_cases hroom : n + s.size ≤ cap
    · have hr := run_append_room_stringF (P := P) w t u ty e i ht hu hi hsize g n cap cur fz hg (by omega) s hroom (by omega)
      rw [hr] at h1; injection h1 with h1 _; subst h1
      exact .inl hk
    · have hxl : xs.length = n := by simpa using hown.1
      have hsm : n + s.size ≤ 9223372036854775807 := by simp only [maxLen] at h63; omega
      have hr := run_append_grow_string (P := P) w t u ty e i (.int .u8 0) ht hu hi hz ⟨g, 0, none⟩ n cap xs (by rw [hsize]; omega) (hown.cells (g := g) rfl) s (by omega) (by omega) (by rw [hby]; exact growslice_fits (by omega) (by omega))
      rw [hr] at h1; injection h1 with h1 _; subst h1
      injection hk with hk
      exact .inr (Nat.le_of_eq hk)
/-- A byte behind a row. -/
theorem app_byte (w : World) (t ty e : TypeId) (i : TypeInfo) (ht : P.underlying t = some (.slice e)) (hi : P.info? e = some i) (hz : i.zero = some (.int .u8 0)) (hsize : i.size = 1) (hby : i.bytes = 1)
    (v : Value) (n : Nat) (xs : List Value) (hown : w.ownsRowF 0 e 1 v n xs) (a : Addr) (x : Value) (hx : w.cell? (a.add 0) = some x) (h1 : x.oneCell' = true) (h63 : n + 1 ≤ maxLen) (hbytes : n + 1 ≤ 140737488355328) :
    ∃ v' w', (Builtin.append_ #[t, t] ty #[v, .slice (some a) 1 1]).run P w = .ok v' w' ∧ w'.ownsRowF 0 e 1 v' (n + 1) (xs ++ [x]) ∧ w.grownBy w' v.ownBlock ∧ ∀ g, v'.ownBlock = some g → v.ownBlock = some g ∨ w.heap.size ≤ g := by
  have hnews : ∀ j u, [x][j]? = some u → w.cell? (a.add j) = some u := fun j u hj => by
    cases j with
    | zero => injection hj with hj; subst hj; exact hx
    | succ j => simp at hj
  have h1' : ∀ u ∈ [x], u.oneCell' = true := fun u hu => by simp at hu; subst hu; exact h1
  rcases hown.2 with ⟨rfl, rfl⟩ | ⟨g, cap, cur, fz, rfl, hbg, hg, hfz, hnc, hcm, hcs, htake⟩
  · obtain ⟨v', w', k1, k2, k3, _⟩ := run_append_ownF (P := P) w w.heap.size t ty e i (.int .u8 0) 1 1 ht hi hz hsize hby rfl (by decide) (.slice none 0 0) 0 xs ⟨hown.1, .inl ⟨rfl, rfl⟩⟩ a 1 1 [x] rfl hnews h1' h63 (by omega) (Nat.le_refl _)
    exact ⟨v', w', k1, ownsF_less k2, k3, fun g hg => .inr (k2.lt g hg).1⟩
  · obtain ⟨v', w', k1, k2, k3, _⟩ := run_append_ownF (P := P) w 0 t ty e i (.int .u8 0) 1 1 ht hi hz hsize hby rfl (by decide) _ n xs hown a 1 1 [x] rfl hnews h1' h63 (by omega) (Nat.zero_le _)
    refine ⟨v', w', k1, k2, k3, fun k hk => ?_⟩
    by_cases hroom : n + 1 ≤ cap
    · have hr := run_append_roomF (P := P) w t ty e i ht hi g n cap cur fz hg (by rw [hsize]; exact hfz) a 1 1 [x] (by rw [hsize]; rfl) hnews h1' hroom (by rw [hsize]; simp; omega)
      rw [hr] at k1; injection k1 with k1 _; subst k1
      exact .inl hk
    · have hsm : n + 1 ≤ 9223372036854775807 := by simp only [maxLen] at h63; omega
      have hr := run_append_grow (P := P) w t ty e i (.int .u8 0) ht hi hz ⟨g, 0, none⟩ n cap xs (by rw [hsize]; exact hown.1) (hown.cells (g := g) rfl) a 1 1 [x] (by rw [hsize]; rfl) hnews (by omega) (by omega) (by rw [hby]; exact growslice_fits (by omega) (by omega))
      rw [hr] at k1; injection k1 with k1 _; subst k1
      injection hk with hk
      exact .inr (Nat.le_of_eq hk)
theorem wp_app_str (w : World) {ops : Array Oper} {rest : List Oper} {o : Oper} {a : Act} {Q : Exit → Act → World → Prop} (hgd : o.guard = none) (sl x : Operand) (t u : TypeId) (ho : o.op = .call { callee := .builtin .append, args := #[sl, x], argTypes := #[t, u] })
    (e : TypeId) (i : TypeInfo) (ht : P.underlying t = some (.slice e)) (hu : P.underlying u = some .string) (hi : P.info? e = some i) (hz : i.zero = some (.int .u8 0)) (hsize : i.size = 1) (hby : i.bytes = 1)
    (v : Value) (n : Nat) (xs : List Value) (hs : a.eval sl = v) (hown : w.ownsRowF 0 e 1 v n xs) (s : ByteArray) (hx : a.eval x = .string s) (h63 : n + s.size ≤ maxLen) (hbytes : n + s.size ≤ 140737488355328) (hnil : n = 0 → v = .slice none 0 0)
    (h : ∀ v' w', w'.ownsRowF 0 e 1 v' (n + s.size) (xs ++ strCells s) → w.grownBy w' v.ownBlock → (∀ g, v'.ownBlock = some g → v.ownBlock = some g ∨ w.heap.size ≤ g) → (n + s.size = 0 → v' = .slice none 0 0) → wpList P ops Q rest (a.put o.dst v') w') : wpList P ops Q (o :: rest) a w := by
  refine wpList_plain hgd fun K hK => ?_
  obtain ⟨v', w', hr, h2, h3, h4, h5⟩ := app_str (P := P) w t u o.type e i ht hu hi hz hsize hby v n xs hown s h63 hbytes hnil
  unfold Oper.wp execOp
  simp only [ho, resolve, invoke, builtin, Sem.run_bind, Sem.run_pure, Result.andThen_ok, List.map_toArray, List.map_cons, List.map_nil, hs, hx, hr]
  exact hK _ _ (h v' w' h2 h3 h4 h5)
theorem wp_app_byte (w : World) {ops : Array Oper} {rest : List Oper} {o : Oper} {a : Act} {Q : Exit → Act → World → Prop} (hgd : o.guard = none) (sl x : Operand) (t : TypeId) (ho : o.op = .call { callee := .builtin .append, args := #[sl, x], argTypes := #[t, t] })
    (e : TypeId) (i : TypeInfo) (ht : P.underlying t = some (.slice e)) (hi : P.info? e = some i) (hz : i.zero = some (.int .u8 0)) (hsize : i.size = 1) (hby : i.bytes = 1)
    (v : Value) (n : Nat) (xs : List Value) (hs : a.eval sl = v) (hown : w.ownsRowF 0 e 1 v n xs) (ad : Addr) (y : Value) (hx : a.eval x = .slice (some ad) 1 1) (hy : w.cell? (ad.add 0) = some y) (h1 : y.oneCell' = true) (h63 : n + 1 ≤ maxLen) (hbytes : n + 1 ≤ 140737488355328)
    (h : ∀ v' w', w'.ownsRowF 0 e 1 v' (n + 1) (xs ++ [y]) → w.grownBy w' v.ownBlock → (∀ g, v'.ownBlock = some g → v.ownBlock = some g ∨ w.heap.size ≤ g) → wpList P ops Q rest (a.put o.dst v') w') : wpList P ops Q (o :: rest) a w := by
  refine wpList_plain hgd fun K hK => ?_
  obtain ⟨v', w', hr, h2, h3, h4⟩ := app_byte (P := P) w t o.type e i ht hi hz hsize hby v n xs hown ad y hy h1 h63 hbytes
  unfold Oper.wp execOp
  simp only [ho, resolve, invoke, builtin, Sem.run_bind, Sem.run_pure, Result.andThen_ok, List.map_toArray, List.map_cons, List.map_nil, hs, hx, hr]
  exact hK _ _ (h v' w' h2 h3 h4)
/-- A row that is frozen as far as it is written. -/
theorem froze (w : World) (g n cap : Nat) (e : TypeId) (cur : Array Value) (fz : Nat × Nat) (xs : List Value) (h0 : n ≠ 0) (hg : w.heap[g]? = some (.cells cur e fz)) (hown : w.ownsRowF 0 e 1 (.slice (some ⟨g, 0, none⟩) n cap) n xs) :
    (w.freeze ⟨g, 0, none⟩ n).ownsRowF 0 e 1 (.slice (some ⟨g, 0, none⟩) n cap) n xs ∧ ∀ k, k ≠ g → (w.freeze ⟨g, 0, none⟩ n).heap[k]? = w.heap[k]? := by
  unfold World.freeze
  rw [if_neg h0]
  refine ⟨⟨hown.1, ?_⟩, fun k hk => ?_⟩
  · rcases hown.2 with ⟨hv, _⟩ | ⟨g', cap', cur', fz', hv, hbg, hg', hfz, rest⟩
    · cases hv
    · injection hv with ha _ hcap
      injection ha with ha; injection ha with hgg _ _
      subst hgg; subst hcap
      obtain ⟨lo, hi⟩ := fz'
      refine .inr ⟨g, _, cur', (if lo == hi then (0, 0 + n) else (min lo 0, max hi (0 + n))), rfl, hbg, ?_, ?_, rest⟩
      · simp only [Array.getElem?_modify, if_true, hg', Option.map_some]
      · simp only at hfz
        split
        · show 0 + n ≤ n * 1; omega
        · show max hi (0 + n) ≤ n * 1; omega
  · simp only [Array.getElem?_modify]
    rw [if_neg (fun e => hk e.symm)]
end Go.Proofs.YtmflfcbebeikcaaGreatDoor.Q

namespace Go.Proofs
open Go.RowKit
theorem YtmflfcbebeikcaaGreatDoor.info_bld : ∃ j, Tryz.prog.info? 71 = some j ∧ j.size ≠ 0 := by
  have h : (Tryz.prog.info? 71).map (·.size) = some 2 := by kernel_rfl
  obtain ⟨j, h1, h2⟩ := Option.map_eq_some_iff.1 h
  exact ⟨j, h1, by rw [h2]; decide⟩
theorem YtmflfcbebeikcaaGreatDoor.cells_get {w : World} {b : Nat} {cs : List Value} {T : TypeId} {fr : Nat × Nat} (hb : w.heap[b]? = some (.cells cs.toArray T fr)) (j : Nat) : w.cell? ⟨b, j, none⟩ = cs[j]? := by
  simp [World.cell?, hb]
theorem YtmflfcbebeikcaaGreatDoor.copyUsed_w (b : Nat) (w : World) (h0 : w.cell? ⟨b, 0, none⟩ = some (.pointer (some ⟨b, 0, none⟩))) :
    Calls Tryz.prog 127 #[.pointer (some ⟨b, 0, none⟩)] w fun e w' => e = .returned (.tuple #[]) ∧ w' = w := by
  obtain ⟨j, hj, _⟩ := YtmflfcbebeikcaaGreatDoor.info_bld
  go_enter Tryz.func127, Tryz.ntmps127
  go_wp2
  rw [Lib.run_neq_ptr_same w _ Tryz.underlying68 hj]
  go_wp2
  go_end0
  exact ⟨rfl, rfl⟩
theorem YtmflfcbebeikcaaGreatDoor.copyFresh_w (b : Nat) (w : World) (T : TypeId) (n : Nat) (hT : liesAt Tryz.prog Tryz.prog.depth T (n / Tryz.prog.cellsOf T) 0 71 1 = true) (hn : 0 < n) (h0 : w.cell? ⟨b, 0, none⟩ = some (.pointer none)) (hsh : w.shape? b = some (T, n)) (hfz : w.frozen? ⟨b, 0, none⟩ = false) :
    Calls Tryz.prog 127 #[.pointer (some ⟨b, 0, none⟩)] w fun e w' => e = .returned (.tuple #[]) ∧ w' = w.setCell ⟨b, 0, none⟩ (.pointer (some ⟨b, 0, none⟩)) := by
  obtain ⟨j, hj, hjs⟩ := YtmflfcbebeikcaaGreatDoor.info_bld
  go_enter Tryz.func127, Tryz.ntmps127
  go_wp2
  rw [Lib.run_to_unsafe w ⟨b, 0, none⟩ Tryz.underlying68 Tryz.underlying195 hj hjs hsh hn]
  simp only [Result.andThen]
  rw [Oper.upon_value]
  go_wp2
  rw [run_callFunc_extern Tryz.func150 (by kernel_rfl) (by kernel_rfl) (by kernel_rfl) (e := Extern.AbiNoEscape.same) (by kernel_rfl)]
  rw [Lib.run_noEscape]
  simp only [Result.andThen]
  rw [Oper.upon_value]
  go_wp2
  rw [Lib.run_from_unsafe w ⟨b, 0, none⟩ Tryz.underlying195 Tryz.underlying68 hj hsh hT]
  simp only [Result.andThen]
  rw [Oper.upon_value]
  go_wp2
  go_end0
  exact ⟨rfl, rfl⟩
/-- A builder's cells, perhaps of a struct that it is the head of. -/
abbrev YtmflfcbebeikcaaGreatDoor.BW (w : World) (b : Nat) (p v : Value) (us : List Value) (T : TypeId) : Prop := w.heap[b]? = some (.cells (p :: v :: us).toArray T (0, 0))
/-- copyCheck, whether the builder was used or not. -/
theorem YtmflfcbebeikcaaGreatDoor.copy_w (b : Nat) (w : World) (used : Bool) (v : Value) (us : List Value) (T : TypeId) (hb : YtmflfcbebeikcaaGreatDoor.BW w b (match used with | true => .pointer (some ⟨b, 0, none⟩) | false => .pointer none) v us T) (hT : liesAt Tryz.prog Tryz.prog.depth T ((us.length + 2) / Tryz.prog.cellsOf T) 0 71 1 = true) :
    Calls Tryz.prog 127 #[.pointer (some ⟨b, 0, none⟩)] w fun e w' => e = .returned (.tuple #[]) ∧ YtmflfcbebeikcaaGreatDoor.BW w' b (.pointer (some ⟨b, 0, none⟩)) v us T ∧ (w'.os = w.os ∧ w'.tape = w.tape ∧ w'.output = w.output ∧ w'.heap.size = w.heap.size) ∧ ∀ k, k ≠ b → w'.heap[k]? = w.heap[k]? := by
  cases used with
  | true =>
    refine (YtmflfcbebeikcaaGreatDoor.copyUsed_w b w (by rw [YtmflfcbebeikcaaGreatDoor.cells_get hb]; rfl)).mono ?_
    rintro e w' ⟨rfl, rfl⟩
    exact ⟨rfl, hb, ⟨rfl, rfl, rfl, rfl⟩, fun _ _ => rfl⟩
  | false =>
    refine (YtmflfcbebeikcaaGreatDoor.copyFresh_w b w T (us.length + 2) hT (by omega) (by rw [YtmflfcbebeikcaaGreatDoor.cells_get hb]; rfl) (by simp [World.shape?, hb]) (by simp [World.frozen?, hb])).mono ?_
    rintro e w' ⟨rfl, rfl⟩
    refine ⟨rfl, ?_, ⟨rfl, rfl, rfl, by simp [World.setCell]⟩, fun k hk => ?_⟩
    · simp [YtmflfcbebeikcaaGreatDoor.BW, World.setCell, Array.getElem?_modify, hb]
    · simp [World.setCell, Array.getElem?_modify, fun e => hk (Eq.symm e)]
      intro e; exact absurd e.symm hk
theorem YtmflfcbebeikcaaGreatDoor.info_byte : ∃ i, Tryz.prog.info? 5 = some i ∧ i.zero = some (.int .u8 0) ∧ i.size = 1 ∧ i.bytes = 1 := by
  have h : (Tryz.prog.info? 5).map (fun i => (i.zero, i.size, i.bytes)) = some (some (.int .u8 0), 1, 1) := by kernel_rfl
  obtain ⟨i, h1, h2⟩ := Option.map_eq_some_iff.1 h
  injection h2 with a b; injection b with b c
  exact ⟨i, h1, a, b, c⟩
/-- What a writing method leaves of a builder. -/
structure YtmflfcbebeikcaaGreatDoor.Wrote (w w' : World) (b : Nat) (v : Value) (us : List Value) (T : TypeId) (xs : List Value) (n : Nat) : Prop where
  bw : ∃ v', YtmflfcbebeikcaaGreatDoor.BW w' b (.pointer (some ⟨b, 0, none⟩)) v' us T ∧ w'.ownsRowF 0 5 1 v' n xs ∧ v'.ownBlock ≠ some b ∧ (∀ g, v'.ownBlock = some g → v.ownBlock = some g ∨ w.heap.size ≤ g) ∧ (n = 0 → v' = .slice none 0 0)
  os : w'.os = w.os
  tape : w'.tape = w.tape
  output : w'.output = w.output
  size : w.heap.size ≤ w'.heap.size
  block : ∀ k, k < w.heap.size → k ≠ b → v.ownBlock ≠ some k → w'.heap[k]? = w.heap[k]?
theorem YtmflfcbebeikcaaGreatDoor.bw_lt {w : World} {b : Nat} {p v : Value} {us : List Value} {T : TypeId} (h : YtmflfcbebeikcaaGreatDoor.BW w b p v us T) : b < w.heap.size := (Array.getElem?_eq_some_iff.1 h).1
theorem YtmflfcbebeikcaaGreatDoor.wrStr_w (b : Nat) (w : World) (used : Bool) (v : Value) (us : List Value) (T : TypeId) (s : ByteArray) (n : Nat) (xs : List Value) (hb : YtmflfcbebeikcaaGreatDoor.BW w b (match used with | true => .pointer (some ⟨b, 0, none⟩) | false => .pointer none) v us T) (hT : liesAt Tryz.prog Tryz.prog.depth T ((us.length + 2) / Tryz.prog.cellsOf T) 0 71 1 = true)
    (hown : w.ownsRowF 0 5 1 v n xs) (hne : v.ownBlock ≠ some b) (hlen : n + s.size ≤ 140737488355328) (hnil : n = 0 → v = .slice none 0 0) :
    Calls Tryz.prog 87 #[.pointer (some ⟨b, 0, none⟩), .string s] w fun e w' => e = .returned (.tuple #[.int .i64 s.size, .nilIface]) ∧ YtmflfcbebeikcaaGreatDoor.Wrote w w' b v us T (xs ++ Lib.strCells s) (n + s.size) := by
  obtain ⟨i0, hi, hz0, hz1, hz2⟩ := YtmflfcbebeikcaaGreatDoor.info_byte
  go_enter Tryz.func87, Tryz.ntmps87
  go_wp2_with (go_at_call 127; refine (YtmflfcbebeikcaaGreatDoor.copy_w b _ used v us T hb hT).mono ?_)
  rintro e w1 ⟨rfl, h1, ⟨o1, o2, o3, o4⟩, hk1⟩
  have hown1 := Q.ownsF_same hown (w' := w1) fun g hg => hk1 g (fun e => hne (e ▸ hg))
  have c0 : w1.cell? ⟨b, 0, none⟩ = some (.pointer (some ⟨b, 0, none⟩)) := by rw [YtmflfcbebeikcaaGreatDoor.cells_get h1]; rfl
  have c1 : w1.cell? ⟨b, 1, none⟩ = some v := by rw [YtmflfcbebeikcaaGreatDoor.cells_get h1]; rfl
  have hlt1 := YtmflfcbebeikcaaGreatDoor.bw_lt h1
  go_wp2_with (at_builtin; refine Q.wp_app_str _ rfl _ _ 69 9 rfl 5 i0 Tryz.underlying69 Tryz.underlying9 hi hz0 hz1 hz2 _ _ _ rfl hown1 s rfl ?c3 ?c4 hnil ?_)
  case c3 => unfold maxLen; omega
  case c4 => omega
  intro v' w2 hown' hgrow hfr hnil'
  have hb2 : YtmflfcbebeikcaaGreatDoor.BW w2 b (.pointer (some ⟨b, 0, none⟩)) v us T := (hgrow.block b hlt1 (fun e => hne e.symm)).trans h1
  have d0 : w2.cell? ⟨b, 0, none⟩ = some (.pointer (some ⟨b, 0, none⟩)) := by rw [YtmflfcbebeikcaaGreatDoor.cells_get hb2]; rfl
  have d1 : w2.cell? ⟨b, 1, none⟩ = some v := by rw [YtmflfcbebeikcaaGreatDoor.cells_get hb2]; rfl
  have f1 : w2.frozen? ⟨b, 1, none⟩ = false := by simp [World.frozen?, hb2]
  have hv' : v'.ownBlock ≠ some b := fun e => by
    rcases hfr b e with h | h
    · exact hne h
    · omega
  obtain ⟨ao, n', cap, rfl⟩ : ∃ ao n' cap, v' = .slice ao n' cap := by
    rcases hown'.2 with ⟨hv, _⟩ | ⟨g, cap, cur, fz, hv, _⟩
    · exact ⟨_, _, _, hv⟩
    · exact ⟨_, _, _, hv⟩
  go_wp2
  go_ret2
  refine ⟨rfl, ⟨⟨_, ?_, Q.ownsF_same hown' fun g hg => ?_, hv', fun g hg => ?_, fun e => hnil' (by omega) (Q.size_zero (by omega))⟩, hgrow.os.trans o1, hgrow.tape.trans o2, hgrow.output.trans o3, ?_, fun k hk hkb hkv => ?_⟩⟩
  · simp [YtmflfcbebeikcaaGreatDoor.BW, World.setCell, Array.getElem?_modify, hb2]
  · simp only [World.setCell, Array.getElem?_modify]
    rw [if_neg (fun e => hv' (by rw [hg]; exact congrArg some e.symm))]
  · rcases hfr g hg with h | h
    · exact .inl h
    · exact .inr (by omega)
  · have := hgrow.size; simp [World.setCell]; omega
  · simp only [World.setCell, Array.getElem?_modify]
    rw [if_neg (fun e => hkb e.symm), hgrow.block k (by omega) (fun e => hkv e.symm), hk1 k hkb]
theorem YtmflfcbebeikcaaGreatDoor.string_w (b : Nat) (w : World) (p v : Value) (us : List Value) (T : TypeId) (l : List UInt8) (hb : YtmflfcbebeikcaaGreatDoor.BW w b p v us T)
    (hown : w.ownsRowF 0 5 1 v l.length (Lib.byteCells l)) (hne : v.ownBlock ≠ some b) (hnil : l = [] → v = .slice none 0 0) :
    Calls Tryz.prog 25 #[.pointer (some ⟨b, 0, none⟩)] w fun e w' => e = .returned (.string ⟨l.toArray⟩) ∧ YtmflfcbebeikcaaGreatDoor.BW w' b p v us T ∧ w'.ownsRowF 0 5 1 v l.length (Lib.byteCells l) ∧
      (w'.os = w.os ∧ w'.tape = w.tape ∧ w'.output = w.output ∧ w'.heap.size = w.heap.size) ∧ ∀ k, v.ownBlock ≠ some k → w'.heap[k]? = w.heap[k]? := by
  by_cases h0 : l = []
  · subst h0
    have hv := hnil rfl
    subst hv
    have c1 : w.drew.cell? ⟨b, 1, none⟩ = some (.slice none 0 0) := by
      have hb' : w.drew.heap[b]? = some (.cells (p :: Value.slice none 0 0 :: us).toArray T (0, 0)) := hb
      rw [YtmflfcbebeikcaaGreatDoor.cells_get hb']; rfl
    have hSD : (Builtin.unsafeSliceData_ #[69] 104 #[.slice none 0 0]).run Tryz.prog w.drew = .ok (.pointer none) w.drew := rfl
    have hUS := Lib.run_unsafeString_none (P := Tryz.prog) (w := w.drew) 104 3 9 none
    go_enter Tryz.func25, Tryz.ntmps25
    go_wp2
    go_region
    all_goals
      go_wp2
      go_ret
      exact ⟨rfl, hb, hown, ⟨rfl, rfl, rfl, rfl⟩, fun _ _ => rfl⟩
  · have hl0 : l.length ≠ 0 := by simpa using h0
    obtain ⟨g, cap, cur, fz, hv, _, hg, hfz, hnc, hcm, hcs, htake⟩ : ∃ g cap cur fz, v = .slice (some ⟨g, 0, none⟩) l.length cap ∧ 0 ≤ g ∧ w.heap[g]? = some (.cells cur 5 fz) ∧ fz.2 ≤ l.length * 1 ∧ l.length ≤ cap ∧ cap ≤ maxLen ∧ cur.size = cap * 1 ∧ cur.toList.take (l.length * 1) = Lib.byteCells l := by
      rcases hown.2 with ⟨_, hz⟩ | h
      · exact absurd hz hl0
      · exact h
    subst hv
    have c1 : w.drew.cell? ⟨b, 1, none⟩ = some (.slice (some ⟨g, 0, none⟩) l.length cap) := by
      have hb' : w.drew.heap[b]? = some (.cells (p :: Value.slice (some ⟨g, 0, none⟩) l.length cap :: us).toArray T (0, 0)) := hb
      rw [YtmflfcbebeikcaaGreatDoor.cells_get hb']; rfl
    have hSD : (Builtin.unsafeSliceData_ #[69] 104 #[.slice (some ⟨g, 0, none⟩) l.length cap]).run Tryz.prog w.drew = .ok (.pointer (some ⟨g, 0, none⟩)) w.drew := Lib.run_unsafeSliceData_row _ _ _ _ _ _ (by omega)
    have hgd : w.drew.heap[g]? = some (.cells cur 5 fz) := hg
    have hUS : (Builtin.unsafeString_ #[104, 3] 9 #[.pointer (some ⟨g, 0, none⟩), .int .i64 l.length]).run Tryz.prog w.drew = .ok (.string ⟨l.toArray⟩) (w.drew.freeze ⟨g, 0, none⟩ l.length) := by
      refine Lib.run_unsafeString_row w.drew 104 3 9 5 Tryz.underlying104 (by kernel_rfl) g cur.size (by simp [World.shape?, hgd]) l h0 (by omega) (by unfold maxLen at hcm; omega) ?_
      intro j x hx
      exact hown.cells (g := g) rfl j (.int .u8 x.toNat) (by simp [Lib.byteCells, hx])
    obtain ⟨k1, k2⟩ := Q.froze w.drew g l.length cap 5 cur fz (Lib.byteCells l) hl0 hgd hown
    have hgb : b ≠ g := fun e => hne (by rw [e]; rfl)
    have hsz : (w.drew.freeze ⟨g, 0, none⟩ l.length).heap.size = w.heap.size := by unfold World.freeze; rw [if_neg hl0]; simp
    have hos : (w.drew.freeze ⟨g, 0, none⟩ l.length).os = w.os ∧ (w.drew.freeze ⟨g, 0, none⟩ l.length).tape = w.tape ∧ (w.drew.freeze ⟨g, 0, none⟩ l.length).output = w.output := by unfold World.freeze; rw [if_neg hl0]; exact ⟨rfl, rfl, rfl⟩
    go_enter Tryz.func25, Tryz.ntmps25
    go_wp2
    go_region
    all_goals
      go_wp2
      go_ret
      exact ⟨rfl, (k2 b hgb).trans hb, k1, ⟨hos.1, hos.2.1, hos.2.2, hsz⟩, fun k hk => k2 k (fun e => hk (by rw [e]; rfl))⟩
end Go.Proofs
namespace Go.Proofs.YtmflfcbebeikcaaGreatDoor.Q
open Go.RowKit
variable [Amb]
/-- What changes a builder alone. -/
theorem bld_go {more : List Ob} {G : Imm} {w w' : World} {φ : Loc} {T e : Nat} {u u' : Bool} {s s' : List UInt8} {rest : List V} (hs : Sit G w φ (hp (.bld T e u s rest :: more))) {b : Nat} {v v' : Value} {us : List Value}
    (h1 : φ 0 0 = some (some (b, 0), 0)) (h3 : repVs G φ rest us) (h4 : ∀ u ∈ us, u.oneCell' = true) (h5 : ∀ o, G b o = none) (h8 : ∀ g, v.ownBlock = some g → (φ 0 (g + 1)).isSome = true) (h9 : ∀ g, (φ 0 (g + 1)).isSome = true → g < w.heap.size ∧ ∀ o, G g o = none) (hb : b < w.heap.size)
    (hbw : w'.heap[b]? = some (.cells (bldP b u' :: v' :: us).toArray T (0, 0))) (hown : w'.ownsRowF 0 e 1 v' s'.length (Lib.byteCells s')) (hne : v'.ownBlock ≠ some b) (hfr : ∀ g, v'.ownBlock = some g → v.ownBlock = some g ∨ w.heap.size ≤ g) (hnil : s' = [] → v' = .slice none 0 0)
    (hos : w'.os = w.os) (htape : w'.tape = w.tape) (hout : w'.output = w.output) (hsize : w.heap.size ≤ w'.heap.size) (hblk : ∀ k, k < w.heap.size → k ≠ b → v.ownBlock ≠ some k → w'.heap[k]? = w.heap[k]?) :
    ∃ φ', Sit G w' φ' (hp (.bld T e u' s' rest :: more)) ∧ Goes G w φ (hp (.bld T e u s rest :: more)) G w' φ' (hp (.bld T e u' s' rest :: more)) := by
  have hlt : ∀ g, v'.ownBlock = some g → g < w'.heap.size := fun g hg => (hown.lt g hg).2
  obtain ⟨φ', hle, hz, hφ0, hnew, hold⟩ : ∃ φ' : Loc, φ.le φ' ∧ (∀ i, ¬ i = 0 → ∀ n, φ' i n = φ i n) ∧ φ' 0 0 = some (some (b, 0), 0) ∧ (∀ g, v'.ownBlock = some g → (φ' 0 (g + 1)).isSome = true) ∧ (∀ g, (φ' 0 (g + 1)).isSome = true → (φ 0 (g + 1)).isSome = true ∨ (v'.ownBlock = some g ∧ w.heap.size ≤ g)) := by
    cases hv : v'.ownBlock with
    | none => exact ⟨φ, Loc.le.refl _, fun _ _ _ => rfl, h1, fun g hg => (by cases hg), fun g hg => .inl hg⟩
    | some g0 =>
      rcases hfr g0 hv with h | h
      · exact ⟨φ, Loc.le.refl _, fun _ _ _ => rfl, h1, fun g hg => (by injection hg with hg; subst hg; exact h8 _ h), fun g hg => .inl hg⟩
      · have hno : φ 0 (g0 + 1) = none := by
          cases hq : φ 0 (g0 + 1) with
          | none => rfl
          | some z => have := (h9 g0 (by rw [hq]; rfl)).1; omega
        refine ⟨setLoc φ 0 (g0 + 1) (none, 0), setLoc_le hno, fun i hi n => setLoc_ne hi, by rw [setLoc_other (by omega)]; exact h1, fun g hg => ?_, fun g hg => ?_⟩
        · injection hg with hg; subst hg
          rw [setLoc_same]; rfl
        · by_cases hgg : g = g0
          · subst hgg; exact .inr ⟨rfl, h⟩
          · rw [setLoc_other (by omega)] at hg; exact .inl hg
  have notown : ∀ k, (∀ i ob, i = 0 → hp (Ob.bld T e u s rest :: more) i = some ob → ¬ Owns φ i ob k) → k ≠ b ∧ v.ownBlock ≠ some k := fun k h => by
    have := h 0 _ rfl rfl
    exact ⟨fun e => this (.inl ⟨0, by rw [e]; exact h1⟩), fun e => this (.inr (h8 k e))⟩
  have hblk' : ∀ k, k < w.heap.size → (∀ i ob, i = 0 → hp (Ob.bld T e u s rest :: more) i = some ob → ¬ Owns φ i ob k) → w'.heap[k]? = w.heap[k]? ∧ ∀ o, G k o = G k o := fun k hk h => by
    obtain ⟨a1, a2⟩ := notown k h
    exact ⟨hblk k hk a1 a2, fun _ => rfl⟩
  refine ⟨φ', hs.step (fun i => i = 0) (Imm.le.refl _) hle hz hos htape hout hsize hblk' (fun i hi => ?_) ?_ ?_ ?_ ?_ ?_⟩
  · cases i with
    | zero => exact absurd rfl hi
    | succ i => rfl
  · refine hs.inv.of (Imm.le.refl _) (fun k cs T' fr hk h0 hall => ?_) fun k o x hx => ?_
    · have h0 := hall 0 h0
      refine hblk k (Array.getElem?_eq_some_iff.1 hk).1 (fun e => ?_) fun e => ?_
      · rw [e, h5] at h0; cases h0
      · rw [(h9 k (h8 k e)).2] at h0; cases h0
    have h6 := hs.inv k o x hx
    have hk := World.block_lt_of_cell? w _ h6
    have hkb : k ≠ b := fun e => by rw [e, h5] at hx; cases hx
    have hkv : v.ownBlock ≠ some k := fun e => by rw [(h9 k (h8 k e)).2] at hx; cases hx
    have := hblk k hk hkb hkv
    unfold World.cell? at h6 ⊢
    rw [this]; exact h6
  · intro i ob hi hH
    subst hi
    injection hH with hH; subst hH
    refine ⟨b, v', us, hφ0, hbw, repVs_mono (Imm.le.refl _) hle _ _ h3, h4, h5, hne, hown, hnew, fun g hg => ?_, hnil⟩
    rcases hold g hg with h | ⟨h, _⟩
    · obtain ⟨a1, a2⟩ := h9 g h
      exact ⟨by omega, a2⟩
    · refine ⟨hlt g h, fun o => ?_⟩
      rcases hfr g h with h' | h'
      · exact (h9 g (h8 g h')).2 o
      · exact hs.inv.fresh h' o
  · intro i j ob ob' k hi hj hij
    exact absurd (hi.trans hj.symm) hij
  · intro i ob k hi hH hk
    subst hi
    injection hH with hH; subst hH
    rcases hk with ⟨c, hk⟩ | hk
    · rw [hφ0] at hk
      injection hk with hk; injection hk with hk _; injection hk with hk; injection hk with hk; subst hk
      exact .inl ⟨0, _, rfl, rfl, .inl ⟨_, h1⟩⟩
    · rcases hold k hk with h | ⟨_, h⟩
      · exact .inl ⟨0, _, rfl, rfl, .inr h⟩
      · exact .inr h
  · intro i hi hH
    subst hi; cases hH
/-- A type that begins with a strings.Builder, n cells more behind it. -/
def heads (T n : Nat) : Prop := liesAt Tryz.prog Tryz.prog.depth T ((n + 2) / Tryz.prog.cellsOf T) 0 71 1 = true
theorem bldP_eq (b : Nat) (u : Bool) : bldP b u = match u with | true => .pointer (some ⟨b, 0, none⟩) | false => .pointer none := rfl
theorem wrStr_c (T : Nat) (u : Bool) (s : List UInt8) (rest : List V) (x : Str) (hT : heads T rest.length) (hl : s.length + x.length ≤ 140737488355328) (more : List Ob := []) :
    PFun Tryz.prog 87 [.ptr 0 0, sv' x] (.bld T 5 u s rest :: more) (.tup [iv x.length, .d (.raw .nilIface)]) (.bld T 5 true (s ++ x) rest :: more) := by
  refine ⟨⟨_, Tryz.func87, by kernel_rfl, by kernel_rfl⟩, fun G w φ us hs hu => ?_⟩
  obtain ⟨v0, vs, rfl, ⟨b, c, hp0, rfl⟩, v1, vs1, rfl, hv1, hvs⟩ := hu
  have hv1 : v1 = .string ⟨x.toArray⟩ := hv1
  have hvs : vs1 = [] := hvs
  subst hv1; subst hvs
  obtain ⟨b', v, us, h1, h2, h3, h4, h5, h6, h7, h8, h9, h10⟩ := hs.holds 0 _ rfl
  rw [h1] at hp0; injection hp0 with e1; injection e1 with e1 e2; injection e1 with e1; injection e1 with e1; subst e1
  have hlen := repVs_len h3
  have hsz : (⟨x.toArray⟩ : ByteArray).size = x.length := by simp [ByteArray.size]
  have key := YtmflfcbebeikcaaGreatDoor.wrStr_w b' w u v us T ⟨x.toArray⟩ s.length (Lib.byteCells s) (by rw [← bldP_eq]; exact h2) (by rw [hlen]; exact hT) h7 h6 (by rw [hsz]; exact hl) (fun e => h10 (List.eq_nil_of_length_eq_zero e))
  refine key.mono ?_
  rintro e w' ⟨rfl, W⟩
  obtain ⟨v', q1, q2, q3, q4, q5⟩ := W.bw
  rw [hsz] at q2 q5
  have hcells : Lib.byteCells s ++ Lib.strCells ⟨x.toArray⟩ = Lib.byteCells (s ++ x) := by rw [Lib.strCells_eq, Lib.byteCells_append]
  rw [hcells, ← List.length_append] at q2
  obtain ⟨φ', g1, g2⟩ := bld_go (u' := true) (s' := s ++ x) hs h1 h3 h4 h5 h8 h9 (Array.getElem?_eq_some_iff.1 h2).1 q1 q2 q3 q4 (fun e => q5 (by have := congrArg List.length e; rw [List.length_append] at this; exact this)) W.os W.tape W.output W.size W.block
  refine ⟨_, _, _, G, φ', rfl, ⟨rfl, rfl⟩, Nat.le_refl _, g1, g2, ?_⟩
  exact ⟨[_, _], by rw [hsz], _, _, rfl, rfl, _, _, rfl, ⟨rfl, rfl⟩, rfl⟩
theorem string_c (T : Nat) (u : Bool) (s : List UInt8) (rest : List V) (more : List Ob := []) : PFun Tryz.prog 25 [.ptr 0 0] (.bld T 5 u s rest :: more) (sv' s) (.bld T 5 u s rest :: more) := by
  refine ⟨⟨_, Tryz.func25, by kernel_rfl, by kernel_rfl⟩, fun G w φ us hs hu => ?_⟩
  obtain ⟨v0, vs, rfl, ⟨b, c, hp0, rfl⟩, hvs⟩ := hu
  have hvs : vs = [] := hvs
  subst hvs
  obtain ⟨b', v, us, h1, h2, h3, h4, h5, h6, h7, h8, h9, h10⟩ := hs.holds 0 _ rfl
  rw [h1] at hp0; injection hp0 with e1; injection e1 with e1 e2; injection e1 with e1; injection e1 with e1; subst e1
  refine (YtmflfcbebeikcaaGreatDoor.string_w b' w (bldP b' u) v us T s h2 h7 h6 h10).mono ?_
  rintro e w' ⟨rfl, q1, q2, ⟨o1, o2, o3, o4⟩, q3⟩
  obtain ⟨φ', g1, g2⟩ := bld_go (u' := u) (s' := s) hs h1 h3 h4 h5 h8 h9 (Array.getElem?_eq_some_iff.1 h2).1 q1 q2 h6 (fun g hg => .inl hg) h10 o1 o2 o3 (Nat.le_of_eq o4.symm) (fun k _ _ hk => q3 k hk)
  exact ⟨_, _, _, G, φ', rfl, ⟨rfl, rfl⟩, Nat.le_refl _, g1, g2, rfl⟩
end Go.Proofs.YtmflfcbebeikcaaGreatDoor.Q

namespace Go.Proofs.YtmflfcbebeikcaaGreatDoor.Q
open Go.RowKit
def powB : Nat × List Value := (0, Lib.pow10Tab.map (Value.int .u64))
/-- Nothing is called back; the table stands. -/
abbrev ambT : Amb where
  tabs := [powB]
  l := 0
  J := fun _ _ _ _ => False
  ok := fun _ _ => False
  go := fun _ => true
  lt := fun h => h.elim
  stable := fun h => h.elim
  yield := fun h => h.elim
theorem powT : @Pow ambT := @Pow.mk ambT ⟨0, by kernel_rfl, List.mem_singleton.2 rfl⟩
theorem ambT_sit (W : World) (h : Lib.TabIs Tryz.prog W "internal/strconv.uint64pow10" .u64 Lib.pow10Tab) : @Sit ambT (allG W) W (fun _ _ => none) (hp []) := by
  refine @Sit.mk ambT _ _ _ _ ⟨fun _ _ _ h => h, fun p hp => ?_⟩ (fun i ob h => by cases h) (fun i j ob ob' b _ h => by cases h) (fun _ _ _ => rfl)
  rw [List.mem_singleton.1 hp]
  have hg : Tryz.prog.globalNamed "internal/strconv.uint64pow10" = some 0 := by kernel_rfl
  have hv := World.var?_cell hg h
  unfold Lib.TabIs World.var? at h
  rw [hg] at h
  have hb : ∃ T fr, W.heap[0]? = some (.cells (Lib.pow10Tab.map (Value.int .u64)).toArray T fr) := by
    revert h
    show (match W.heap[0]? with
      | some (.cells cs _ _) => some cs
      | _ => none) = _ → _
    intro h
    split at h
    · rename_i cs T fr e
      exact ⟨T, fr, by rw [e]; injection h with h; rw [h]⟩
    · cases h
  refine ⟨by decide, hb, fun j v hj => ?_⟩
  show W.cell? ⟨0, j, none⟩ = some v
  rw [hv j]
  simpa [powB] using hj
/-- A row's list of variables: the table is the third one. -/
theorem tab_of {d32 d64 : DataW Unit} {W : World} (h : laidMetH Tryz.prog [("math/bits.deBruijn32tab", d32), ("math/bits.deBruijn64tab", d64), ("internal/strconv.uint64pow10", Rows.laid_internal_strconv_uint64pow10)] W)
    (hp : laidMetH Tryz.prog [("math/bits.deBruijn32tab", d32), ("math/bits.deBruijn64tab", d64), ("internal/strconv.uint64pow10", Rows.laid_internal_strconv_uint64pow10)] W = laidMet Tryz.prog [("math/bits.deBruijn32tab", d32), ("math/bits.deBruijn64tab", d64), ("internal/strconv.uint64pow10", Rows.laid_internal_strconv_uint64pow10)] W) : Lib.TabIs Tryz.prog W "internal/strconv.uint64pow10" .u64 Lib.pow10Tab := by
  rw [hp] at h
  have h3 := h.tail.tail
  have e : (Rows.laid_internal_strconv_uint64pow10 : DataW Unit) = Lib.tabData .u64 Lib.pow10Tab := by kernel_rfl
  rw [e] at h3
  exact Lib.tabIs_of_head (g := 0) (t := 212) (e := 198) (n := 20) (by kernel_rfl) (by kernel_rfl) (by kernel_rfl) (by kernel_rfl) (by kernel_rfl) (by kernel_rfl) h3
end Go.Proofs.YtmflfcbebeikcaaGreatDoor.Q
