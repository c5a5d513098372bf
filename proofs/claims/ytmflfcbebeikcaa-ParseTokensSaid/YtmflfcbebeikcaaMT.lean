/- A text builder's methods; trees that are the same; tokens joined and scanned again; the law of tokens. No condition. -/
import Derived.Test.YtmflfcbebeikcaaMA
import Derived.Lib.FrozenHead2
import Derived.Lib.AppendStr
import Derived.Test.YtmflfcbebeikcaaMK
import Derived.Lib.Builder
import Derived.Lib.FrozenHead
import Derived.Lib.UnsafeStr
import Derived.WalkKit
import Derived.Test.YtmflfcbebeikcaaMC
import Derived.Test.YtmflfcbebeikcaaMB
import Derived.Test.YtmflfcbebeikcaaMN
import Derived.Test.YtmflfcbebeikcaaML
import Derived.Test.YtmflfcbebeikcaaMO
set_option linter.unusedVariables false
set_option linter.unusedSectionVars false
set_option linter.unnecessarySimpa false
set_option linter.unusedSimpArgs false
namespace Go.Proofs.Ytmflfcbebeikcaa.Q
open Go.Lib
variable {P : Program}
theorem add_zero' (b o : Nat) : (⟨b, o, none⟩ : Addr).add 0 = ⟨b, o, none⟩ := by unfold Addr.add; split <;> simp_all
theorem size_zero {s : ByteArray} (h : s.size = 0) : s = ByteArray.empty := by
  cases s with
  | mk d =>
    have h : d.size = 0 := h
    rw [Array.eq_empty_of_size_eq_zero h]; rfl
theorem ownsF_less {w : World} {base : Nat} {e : TypeId} {n : Nat} {v : Value} {xs : List Value} (h : w.ownsRowF base e 1 v n xs) : w.ownsRowF 0 e 1 v n xs := by
  refine ⟨h.1, ?_⟩
  rcases h.2 with hn | ⟨g, cap, cur, fz, hv, hb, rest⟩
  · exact .inl hn
  · exact .inr ⟨g, cap, cur, fz, hv, Nat.zero_le _, rest⟩
theorem ownsF_same {w w' : World} {e : TypeId} {n : Nat} {v : Value} {xs : List Value} (h : w.ownsRowF 0 e 1 v n xs) (k : ∀ g, v.ownBlock = some g → w'.heap[g]? = w.heap[g]?) : w'.ownsRowF 0 e 1 v n xs := by
  refine ⟨h.1, ?_⟩
  rcases h.2 with hn | ⟨g, cap, cur, fz, hv, hb, hg, rest⟩
  · exact .inl hn
  · exact .inr ⟨g, cap, cur, fz, hv, hb, by rw [k g (by rw [hv]; rfl)]; exact hg, rest⟩
/-- A text behind a row. -/
theorem app_str (w : World) (t u ty e : TypeId) (i : TypeInfo) (ht : P.underlying t = some (.slice e)) (hu : P.underlying u = some .string) (hi : P.info? e = some i) (hz : i.zero = some (.int .u8 0)) (hsize : i.size = 1) (hby : i.bytes = 1)
    (v : Value) (n : Nat) (xs : List Value) (hown : w.ownsRowF 0 e 1 v n xs) (s : ByteArray) (h63 : n + s.size ≤ maxLen) (hbytes : n + s.size ≤ 140737488355328) (hnil : n = 0 → v = .slice none 0 0) :
    ∃ v' w', (Builtin.append_ #[t, u] ty #[v, .string s]).run P w = .ok v' w' ∧ w'.ownsRowF 0 e 1 v' (n + s.size) (xs ++ strCells s) ∧ w.grownBy w' v.ownBlock ∧ (∀ g, v'.ownBlock = some g → v.ownBlock = some g ∨ w.heap.size ≤ g) ∧ (n + s.size = 0 → v' = .slice none 0 0) := by
  rcases hown.2 with ⟨rfl, rfl⟩ | ⟨g, cap, cur, fz, rfl, hbg, hg, hfz, hnc, hcm, hcs, htake⟩
  · obtain ⟨v', w', h1, h2, h3, h4⟩ := run_append_own_stringF (P := P) w w.heap.size t u ty e i ht hu hi hz hsize hby (.slice none 0 0) 0 xs ⟨hown.1, .inl ⟨rfl, rfl⟩⟩ s h63 hbytes (Nat.le_refl _)
    exact ⟨v', w', h1, ownsF_less h2, h3, fun g hg => .inr (h2.lt g hg).1, fun e => h4.2 ⟨rfl, by omega⟩⟩
  · obtain ⟨v', w', h1, h2, h3, _⟩ := run_append_own_stringF (P := P) w 0 t u ty e i ht hu hi hz hsize hby _ n xs hown s h63 hbytes (Nat.zero_le _)
    refine ⟨v', w', h1, h2, h3, fun k hk => ?_, fun e => by have := hnil (by omega); cases this⟩
    by_cases hroom : n + s.size ≤ cap
    · have hr := run_append_room_stringF (P := P) w t u ty e i ht hu hi hsize g n cap cur fz hg (by omega) s hroom (by omega)
      rw [hr] at h1; injection h1 with h1 _; subst h1
      exact .inl hk
    · have hxl : xs.length = n := by simpa using hown.1
      have hsm : n + s.size ≤ 9223372036854775807 := by simp only [maxLen] at h63; omega
      have hr := run_append_grow_string (P := P) w t u ty e i (.int .u8 0) ht hu hi hz ⟨g, 0, none⟩ n cap xs (by rw [hsize]; omega) (hown.cells (g := g) rfl) s (by omega) (by omega) (by rw [hby]; exact growslice_fits (by omega) (by omega))
      rw [hr] at h1; injection h1 with h1 _; subst h1
      injection hk with hk
      exact .inr (Nat.le_of_eq hk)
/-- A byte behind a row. -/
theorem app_byte (w : World) (t ty e : TypeId) (i : TypeInfo) (ht : P.underlying t = some (.slice e)) (hi : P.info? e = some i) (hz : i.zero = some (.int .u8 0)) (hsize : i.size = 1) (hby : i.bytes = 1)
    (v : Value) (n : Nat) (xs : List Value) (hown : w.ownsRowF 0 e 1 v n xs) (a : Addr) (x : Value) (hx : w.cell? (a.add 0) = some x) (h1 : x.oneCell' = true) (h63 : n + 1 ≤ maxLen) (hbytes : n + 1 ≤ 140737488355328) :
    ∃ v' w', (Builtin.append_ #[t, t] ty #[v, .slice (some a) 1 1]).run P w = .ok v' w' ∧ w'.ownsRowF 0 e 1 v' (n + 1) (xs ++ [x]) ∧ w.grownBy w' v.ownBlock ∧ ∀ g, v'.ownBlock = some g → v.ownBlock = some g ∨ w.heap.size ≤ g := by
  have hnews : ∀ j u, [x][j]? = some u → w.cell? (a.add j) = some u := fun j u hj => by
    cases j with
    | zero => injection hj with hj; subst hj; exact hx
    | succ j => simp at hj
  have h1' : ∀ u ∈ [x], u.oneCell' = true := fun u hu => by simp at hu; subst hu; exact h1
  rcases hown.2 with ⟨rfl, rfl⟩ | ⟨g, cap, cur, fz, rfl, hbg, hg, hfz, hnc, hcm, hcs, htake⟩
  · obtain ⟨v', w', k1, k2, k3, _⟩ := run_append_ownF (P := P) w w.heap.size t ty e i (.int .u8 0) 1 1 ht hi hz hsize hby rfl (by decide) (.slice none 0 0) 0 xs ⟨hown.1, .inl ⟨rfl, rfl⟩⟩ a 1 1 [x] rfl hnews h1' h63 (by omega) (Nat.le_refl _)
    exact ⟨v', w', k1, ownsF_less k2, k3, fun g hg => .inr (k2.lt g hg).1⟩
  · obtain ⟨v', w', k1, k2, k3, _⟩ := run_append_ownF (P := P) w 0 t ty e i (.int .u8 0) 1 1 ht hi hz hsize hby rfl (by decide) _ n xs hown a 1 1 [x] rfl hnews h1' h63 (by omega) (Nat.zero_le _)
    refine ⟨v', w', k1, k2, k3, fun k hk => ?_⟩
    by_cases hroom : n + 1 ≤ cap
    · have hr := run_append_roomF (P := P) w t ty e i ht hi g n cap cur fz hg (by rw [hsize]; exact hfz) a 1 1 [x] (by rw [hsize]; rfl) hnews h1' hroom (by rw [hsize]; simp; omega)
      rw [hr] at k1; injection k1 with k1 _; subst k1
      exact .inl hk
    · have hsm : n + 1 ≤ 9223372036854775807 := by simp only [maxLen] at h63; omega
      have hr := run_append_grow (P := P) w t ty e i (.int .u8 0) ht hi hz ⟨g, 0, none⟩ n cap xs (by rw [hsize]; exact hown.1) (hown.cells (g := g) rfl) a 1 1 [x] (by rw [hsize]; rfl) hnews (by omega) (by omega) (by rw [hby]; exact growslice_fits (by omega) (by omega))
      rw [hr] at k1; injection k1 with k1 _; subst k1
      injection hk with hk
      exact .inr (Nat.le_of_eq hk)
theorem wp_app_str (w : World) {ops : Array Oper} {rest : List Oper} {o : Oper} {a : Act} {Q : Exit → Act → World → Prop} (hgd : o.guard = none) (sl x : Operand) (t u : TypeId) (ho : o.op = .call { callee := .builtin .append, args := #[sl, x], argTypes := #[t, u] })
    (e : TypeId) (i : TypeInfo) (ht : P.underlying t = some (.slice e)) (hu : P.underlying u = some .string) (hi : P.info? e = some i) (hz : i.zero = some (.int .u8 0)) (hsize : i.size = 1) (hby : i.bytes = 1)
    (v : Value) (n : Nat) (xs : List Value) (hs : a.eval sl = v) (hown : w.ownsRowF 0 e 1 v n xs) (s : ByteArray) (hx : a.eval x = .string s) (h63 : n + s.size ≤ maxLen) (hbytes : n + s.size ≤ 140737488355328) (hnil : n = 0 → v = .slice none 0 0)
    (h : ∀ v' w', w'.ownsRowF 0 e 1 v' (n + s.size) (xs ++ strCells s) → w.grownBy w' v.ownBlock → (∀ g, v'.ownBlock = some g → v.ownBlock = some g ∨ w.heap.size ≤ g) → (n + s.size = 0 → v' = .slice none 0 0) → wpList P ops Q rest (a.put o.dst v') w') : wpList P ops Q (o :: rest) a w := by
  refine wpList_plain hgd fun K hK => ?_
  obtain ⟨v', w', hr, h2, h3, h4, h5⟩ := app_str (P := P) w t u o.type e i ht hu hi hz hsize hby v n xs hown s h63 hbytes hnil
  unfold Oper.wp execOp
  simp only [ho, resolve, invoke, builtin, Sem.run_bind, Sem.run_pure, Result.andThen_ok, List.map_toArray, List.map_cons, List.map_nil, hs, hx, hr]
  exact hK _ _ (h v' w' h2 h3 h4 h5)
theorem wp_app_byte (w : World) {ops : Array Oper} {rest : List Oper} {o : Oper} {a : Act} {Q : Exit → Act → World → Prop} (hgd : o.guard = none) (sl x : Operand) (t : TypeId) (ho : o.op = .call { callee := .builtin .append, args := #[sl, x], argTypes := #[t, t] })
    (e : TypeId) (i : TypeInfo) (ht : P.underlying t = some (.slice e)) (hi : P.info? e = some i) (hz : i.zero = some (.int .u8 0)) (hsize : i.size = 1) (hby : i.bytes = 1)
    (v : Value) (n : Nat) (xs : List Value) (hs : a.eval sl = v) (hown : w.ownsRowF 0 e 1 v n xs) (ad : Addr) (y : Value) (hx : a.eval x = .slice (some ad) 1 1) (hy : w.cell? (ad.add 0) = some y) (h1 : y.oneCell' = true) (h63 : n + 1 ≤ maxLen) (hbytes : n + 1 ≤ 140737488355328)
    (h : ∀ v' w', w'.ownsRowF 0 e 1 v' (n + 1) (xs ++ [y]) → w.grownBy w' v.ownBlock → (∀ g, v'.ownBlock = some g → v.ownBlock = some g ∨ w.heap.size ≤ g) → wpList P ops Q rest (a.put o.dst v') w') : wpList P ops Q (o :: rest) a w := by
  refine wpList_plain hgd fun K hK => ?_
  obtain ⟨v', w', hr, h2, h3, h4⟩ := app_byte (P := P) w t o.type e i ht hi hz hsize hby v n xs hown ad y hy h1 h63 hbytes
  unfold Oper.wp execOp
  simp only [ho, resolve, invoke, builtin, Sem.run_bind, Sem.run_pure, Result.andThen_ok, List.map_toArray, List.map_cons, List.map_nil, hs, hx, hr]
  exact hK _ _ (h v' w' h2 h3 h4)
/-- A row that is frozen as far as it is written. -/
theorem froze (w : World) (g n cap : Nat) (e : TypeId) (cur : Array Value) (fz : Nat × Nat) (xs : List Value) (h0 : n ≠ 0) (hg : w.heap[g]? = some (.cells cur e fz)) (hown : w.ownsRowF 0 e 1 (.slice (some ⟨g, 0, none⟩) n cap) n xs) :
    (w.freeze ⟨g, 0, none⟩ n).ownsRowF 0 e 1 (.slice (some ⟨g, 0, none⟩) n cap) n xs ∧ ∀ k, k ≠ g → (w.freeze ⟨g, 0, none⟩ n).heap[k]? = w.heap[k]? := by
  unfold World.freeze
  rw [if_neg h0]
  refine ⟨⟨hown.1, ?_⟩, fun k hk => ?_⟩
  · rcases hown.2 with ⟨hv, _⟩ | ⟨g', cap', cur', fz', hv, hbg, hg', hfz, rest⟩
    · cases hv
    · injection hv with ha _ hcap
      injection ha with ha; injection ha with hgg _ _
      subst hgg; subst hcap
      obtain ⟨lo, hi⟩ := fz'
      refine .inr ⟨g, _, cur', (if lo == hi then (0, 0 + n) else (min lo 0, max hi (0 + n))), rfl, hbg, ?_, ?_, rest⟩
      · simp only [Array.getElem?_modify, if_true, hg', Option.map_some]
      · simp only at hfz
        split
        · show 0 + n ≤ n * 1; omega
        · show max hi (0 + n) ≤ n * 1; omega
  · simp only [Array.getElem?_modify]
    rw [if_neg (fun e => hk e.symm)]
end Go.Proofs.Ytmflfcbebeikcaa.Q

set_option maxRecDepth 100000
set_option maxHeartbeats 4000000
namespace Go.Proofs
open Go.RowKit
theorem Ytmflfcbebeikcaa.info_bld : ∃ j, Try.prog.info? 90 = some j ∧ j.size ≠ 0 := by
  have h : (Try.prog.info? 90).map (·.size) = some 2 := by kernel_rfl
  obtain ⟨j, h1, h2⟩ := Option.map_eq_some_iff.1 h
  exact ⟨j, h1, by rw [h2]; decide⟩
theorem Ytmflfcbebeikcaa.cells_get {w : World} {b : Nat} {cs : List Value} {T : TypeId} {fr : Nat × Nat} (hb : w.heap[b]? = some (.cells cs.toArray T fr)) (j : Nat) : w.cell? ⟨b, j, none⟩ = cs[j]? := by
  simp [World.cell?, hb]
theorem Ytmflfcbebeikcaa.copyUsed_w (b : Nat) (w : World) (h0 : w.cell? ⟨b, 0, none⟩ = some (.pointer (some ⟨b, 0, none⟩))) :
    Calls Try.prog 70 #[.pointer (some ⟨b, 0, none⟩)] w fun e w' => e = .returned (.tuple #[]) ∧ w' = w := by
  obtain ⟨j, hj, _⟩ := Ytmflfcbebeikcaa.info_bld
  go_enter Try.func70, Try.ntmps70
  go_wp2
  rw [Lib.run_neq_ptr_same w _ Try.underlying87 hj]
  go_wp2
  go_end0
  exact ⟨rfl, rfl⟩
theorem Ytmflfcbebeikcaa.copyFresh_w (b : Nat) (w : World) (T : TypeId) (n : Nat) (hT : liesAt Try.prog Try.prog.depth T (n / Try.prog.cellsOf T) 0 90 1 = true) (hn : 0 < n) (h0 : w.cell? ⟨b, 0, none⟩ = some (.pointer none)) (hsh : w.shape? b = some (T, n)) (hfz : w.frozen? ⟨b, 0, none⟩ = false) :
    Calls Try.prog 70 #[.pointer (some ⟨b, 0, none⟩)] w fun e w' => e = .returned (.tuple #[]) ∧ w' = w.setCell ⟨b, 0, none⟩ (.pointer (some ⟨b, 0, none⟩)) := by
  obtain ⟨j, hj, hjs⟩ := Ytmflfcbebeikcaa.info_bld
  go_enter Try.func70, Try.ntmps70
  go_wp2
  rw [Lib.run_to_unsafe w ⟨b, 0, none⟩ Try.underlying87 Try.underlying176 hj hjs hsh hn]
  simp only [Result.andThen]
  rw [Oper.upon_value]
  go_wp2
  rw [run_callFunc_extern Try.func111 (by kernel_rfl) (by kernel_rfl) (by kernel_rfl) (e := Extern.AbiNoEscape.same) (by kernel_rfl)]
  rw [Lib.run_noEscape]
  simp only [Result.andThen]
  rw [Oper.upon_value]
  go_wp2
  rw [Lib.run_from_unsafe w ⟨b, 0, none⟩ Try.underlying176 Try.underlying87 hj hsh hT]
  simp only [Result.andThen]
  rw [Oper.upon_value]
  go_wp2
  go_end0
  exact ⟨rfl, rfl⟩
/-- A builder's cells, perhaps of a struct that it is the head of. -/
abbrev Ytmflfcbebeikcaa.BW (w : World) (b : Nat) (p v : Value) (us : List Value) (T : TypeId) : Prop := w.heap[b]? = some (.cells (p :: v :: us).toArray T (0, 0))
/-- copyCheck, whether the builder was used or not. -/
theorem Ytmflfcbebeikcaa.copy_w (b : Nat) (w : World) (used : Bool) (v : Value) (us : List Value) (T : TypeId) (hb : Ytmflfcbebeikcaa.BW w b (match used with | true => .pointer (some ⟨b, 0, none⟩) | false => .pointer none) v us T) (hT : liesAt Try.prog Try.prog.depth T ((us.length + 2) / Try.prog.cellsOf T) 0 90 1 = true) :
    Calls Try.prog 70 #[.pointer (some ⟨b, 0, none⟩)] w fun e w' => e = .returned (.tuple #[]) ∧ Ytmflfcbebeikcaa.BW w' b (.pointer (some ⟨b, 0, none⟩)) v us T ∧ (w'.os = w.os ∧ w'.tape = w.tape ∧ w'.output = w.output ∧ w'.heap.size = w.heap.size) ∧ ∀ k, k ≠ b → w'.heap[k]? = w.heap[k]? := by
  cases used with
  | true =>
    refine (Ytmflfcbebeikcaa.copyUsed_w b w (by rw [Ytmflfcbebeikcaa.cells_get hb]; rfl)).mono ?_
    rintro e w' ⟨rfl, rfl⟩
    exact ⟨rfl, hb, ⟨rfl, rfl, rfl, rfl⟩, fun _ _ => rfl⟩
  | false =>
    refine (Ytmflfcbebeikcaa.copyFresh_w b w T (us.length + 2) hT (by omega) (by rw [Ytmflfcbebeikcaa.cells_get hb]; rfl) (by simp [World.shape?, hb]) (by simp [World.frozen?, hb])).mono ?_
    rintro e w' ⟨rfl, rfl⟩
    refine ⟨rfl, ?_, ⟨rfl, rfl, rfl, by simp [World.setCell]⟩, fun k hk => ?_⟩
    · simp [Ytmflfcbebeikcaa.BW, World.setCell, Array.getElem?_modify, hb]
    · simp [World.setCell, Array.getElem?_modify, fun e => hk (Eq.symm e)]
      intro e; exact absurd e.symm hk
theorem Ytmflfcbebeikcaa.info_byte : ∃ i, Try.prog.info? 5 = some i ∧ i.zero = some (.int .u8 0) ∧ i.size = 1 ∧ i.bytes = 1 := by
  have h : (Try.prog.info? 5).map (fun i => (i.zero, i.size, i.bytes)) = some (some (.int .u8 0), 1, 1) := by kernel_rfl
  obtain ⟨i, h1, h2⟩ := Option.map_eq_some_iff.1 h
  injection h2 with a b; injection b with b c
  exact ⟨i, h1, a, b, c⟩
/-- What a writing method leaves of a builder. -/
structure Ytmflfcbebeikcaa.Wrote (w w' : World) (b : Nat) (v : Value) (us : List Value) (T : TypeId) (xs : List Value) (n : Nat) : Prop where
  bw : ∃ v', Ytmflfcbebeikcaa.BW w' b (.pointer (some ⟨b, 0, none⟩)) v' us T ∧ w'.ownsRowF 0 5 1 v' n xs ∧ v'.ownBlock ≠ some b ∧ (∀ g, v'.ownBlock = some g → v.ownBlock = some g ∨ w.heap.size ≤ g) ∧ (n = 0 → v' = .slice none 0 0)
  os : w'.os = w.os
  tape : w'.tape = w.tape
  output : w'.output = w.output
  size : w.heap.size ≤ w'.heap.size
  block : ∀ k, k < w.heap.size → k ≠ b → v.ownBlock ≠ some k → w'.heap[k]? = w.heap[k]?
theorem Ytmflfcbebeikcaa.bw_lt {w : World} {b : Nat} {p v : Value} {us : List Value} {T : TypeId} (h : Ytmflfcbebeikcaa.BW w b p v us T) : b < w.heap.size := (Array.getElem?_eq_some_iff.1 h).1
theorem Ytmflfcbebeikcaa.wrStr_w (b : Nat) (w : World) (used : Bool) (v : Value) (us : List Value) (T : TypeId) (s : ByteArray) (n : Nat) (xs : List Value) (hb : Ytmflfcbebeikcaa.BW w b (match used with | true => .pointer (some ⟨b, 0, none⟩) | false => .pointer none) v us T) (hT : liesAt Try.prog Try.prog.depth T ((us.length + 2) / Try.prog.cellsOf T) 0 90 1 = true)
    (hown : w.ownsRowF 0 5 1 v n xs) (hne : v.ownBlock ≠ some b) (hlen : n + s.size ≤ 140737488355328) (hnil : n = 0 → v = .slice none 0 0) :
    Calls Try.prog 37 #[.pointer (some ⟨b, 0, none⟩), .string s] w fun e w' => e = .returned (.tuple #[.int .i64 s.size, .nilIface]) ∧ Ytmflfcbebeikcaa.Wrote w w' b v us T (xs ++ Lib.strCells s) (n + s.size) := by
  obtain ⟨i0, hi, hz0, hz1, hz2⟩ := Ytmflfcbebeikcaa.info_byte
  go_enter Try.func37, Try.ntmps37
  go_wp2_with (go_at_call 70; refine (Ytmflfcbebeikcaa.copy_w b _ used v us T hb hT).mono ?_)
  rintro e w1 ⟨rfl, h1, ⟨o1, o2, o3, o4⟩, hk1⟩
  have hown1 := Q.ownsF_same hown (w' := w1) fun g hg => hk1 g (fun e => hne (e ▸ hg))
  have c0 : w1.cell? ⟨b, 0, none⟩ = some (.pointer (some ⟨b, 0, none⟩)) := by rw [Ytmflfcbebeikcaa.cells_get h1]; rfl
  have c1 : w1.cell? ⟨b, 1, none⟩ = some v := by rw [Ytmflfcbebeikcaa.cells_get h1]; rfl
  have hlt1 := Ytmflfcbebeikcaa.bw_lt h1
  go_wp2_with (at_builtin; refine Q.wp_app_str _ rfl _ _ 88 9 rfl 5 i0 Try.underlying88 Try.underlying9 hi hz0 hz1 hz2 _ _ _ rfl hown1 s rfl ?c3 ?c4 hnil ?_)
  case c3 => unfold maxLen; omega
  case c4 => omega
  intro v' w2 hown' hgrow hfr hnil'
  have hb2 : Ytmflfcbebeikcaa.BW w2 b (.pointer (some ⟨b, 0, none⟩)) v us T := (hgrow.block b hlt1 (fun e => hne e.symm)).trans h1
  have d0 : w2.cell? ⟨b, 0, none⟩ = some (.pointer (some ⟨b, 0, none⟩)) := by rw [Ytmflfcbebeikcaa.cells_get hb2]; rfl
  have d1 : w2.cell? ⟨b, 1, none⟩ = some v := by rw [Ytmflfcbebeikcaa.cells_get hb2]; rfl
  have f1 : w2.frozen? ⟨b, 1, none⟩ = false := by simp [World.frozen?, hb2]
  have hv' : v'.ownBlock ≠ some b := fun e => by
    rcases hfr b e with h | h
    · exact hne h
    · omega
  obtain ⟨ao, n', cap, rfl⟩ : ∃ ao n' cap, v' = .slice ao n' cap := by
    rcases hown'.2 with ⟨hv, _⟩ | ⟨g, cap, cur, fz, hv, _⟩
    · exact ⟨_, _, _, hv⟩
    · exact ⟨_, _, _, hv⟩
  go_wp2
  go_ret2
  refine ⟨rfl, ⟨⟨_, ?_, Q.ownsF_same hown' fun g hg => ?_, hv', fun g hg => ?_, fun e => hnil' (by omega) (Q.size_zero (by omega))⟩, hgrow.os.trans o1, hgrow.tape.trans o2, hgrow.output.trans o3, ?_, fun k hk hkb hkv => ?_⟩⟩
  · simp [Ytmflfcbebeikcaa.BW, World.setCell, Array.getElem?_modify, hb2]
  · simp only [World.setCell, Array.getElem?_modify]
    rw [if_neg (fun e => hv' (by rw [hg]; exact congrArg some e.symm))]
  · rcases hfr g hg with h | h
    · exact .inl h
    · exact .inr (by omega)
  · have := hgrow.size; simp [World.setCell]; omega
  · simp only [World.setCell, Array.getElem?_modify]
    rw [if_neg (fun e => hkb e.symm), hgrow.block k (by omega) (fun e => hkv e.symm), hk1 k hkb]
theorem Ytmflfcbebeikcaa.wrByte_w (b : Nat) (w : World) (used : Bool) (v : Value) (us : List Value) (T : TypeId) (c : Int) (n : Nat) (xs : List Value) (hb : Ytmflfcbebeikcaa.BW w b (match used with | true => .pointer (some ⟨b, 0, none⟩) | false => .pointer none) v us T) (hT : liesAt Try.prog Try.prog.depth T ((us.length + 2) / Try.prog.cellsOf T) 0 90 1 = true)
    (hown : w.ownsRowF 0 5 1 v n xs) (hne : v.ownBlock ≠ some b) (hlen : n + 1 ≤ 140737488355328) :
    Calls Try.prog 36 #[.pointer (some ⟨b, 0, none⟩), .int .u8 c] w fun e w' => e = .returned .nilIface ∧ Ytmflfcbebeikcaa.Wrote w w' b v us T (xs ++ [.int .u8 c]) (n + 1) := by
  obtain ⟨i0, hi, hz0, hz1, hz2⟩ := Ytmflfcbebeikcaa.info_byte
  go_enter Try.func36, Try.ntmps36
  go_wp2_with (go_at_call 70; refine (Ytmflfcbebeikcaa.copy_w b _ used v us T hb hT).mono ?_)
  rintro e w1 ⟨rfl, h1, ⟨o1, o2, o3, o4⟩, hk1⟩
  have hown1 := Q.ownsF_same hown (w' := w1) fun g hg => hk1 g (fun e => hne (e ▸ hg))
  have c0 : w1.cell? ⟨b, 0, none⟩ = some (.pointer (some ⟨b, 0, none⟩)) := by rw [Ytmflfcbebeikcaa.cells_get h1]; rfl
  have c1 : w1.cell? ⟨b, 1, none⟩ = some v := by rw [Ytmflfcbebeikcaa.cells_get h1]; rfl
  have hlt1 := Ytmflfcbebeikcaa.bw_lt h1
  go_wp2_with (at_builtin; refine Q.wp_app_byte _ rfl _ _ 88 rfl 5 i0 Try.underlying88 hi hz0 hz1 hz2 _ _ _ rfl (hown1.alloc _) _ (.int .u8 c) rfl ?c1 rfl ?c3 ?c4 ?_)
  case c1 =>
    rw [show w.heap.size = w1.heap.size from o4.symm]
    rw [Q.add_zero']
    exact Ytmflfcbebeikcaa.cells_get (cs := [.int .u8 c]) (by simp only [World.alloc, Array.getElem?_push_size]; rfl) 0
  case c3 => unfold maxLen; omega
  case c4 => omega
  intro v' w2 hown' hgrow hfr
  have hsz : w1.heap.size ≤ w2.heap.size := by have := hgrow.size; simp at this; omega
  have old : ∀ k, k < w1.heap.size → v.ownBlock ≠ some k → w2.heap[k]? = w1.heap[k]? := fun k hk hkv => by
    rw [hgrow.block k (by simp; omega) (fun e => hkv e.symm)]
    exact Lib.alloc_old w1 _ k hk
  have hb2 : Ytmflfcbebeikcaa.BW w2 b (.pointer (some ⟨b, 0, none⟩)) v us T := (old b hlt1 hne).trans h1
  have d0 : w2.cell? ⟨b, 0, none⟩ = some (.pointer (some ⟨b, 0, none⟩)) := by rw [Ytmflfcbebeikcaa.cells_get hb2]; rfl
  have d1 : w2.cell? ⟨b, 1, none⟩ = some v := by rw [Ytmflfcbebeikcaa.cells_get hb2]; rfl
  have f1 : w2.frozen? ⟨b, 1, none⟩ = false := by simp [World.frozen?, hb2]
  have hfr' : ∀ g, v'.ownBlock = some g → v.ownBlock = some g ∨ w1.heap.size ≤ g := fun g hg => by
    rcases hfr g hg with h | h
    · exact .inl h
    · have e : (w1.alloc (.cells #[.int .u8 c] 5)).heap.size = w1.heap.size + 1 := by simp
      exact .inr (by omega)
  have hv' : v'.ownBlock ≠ some b := fun e => by
    rcases hfr' b e with h | h
    · exact hne h
    · omega
  obtain ⟨ao, n', cap, rfl⟩ : ∃ ao n' cap, v' = .slice ao n' cap := by
    rcases hown'.2 with ⟨hv, _⟩ | ⟨g, cap, cur, fz, hv, _⟩
    · exact ⟨_, _, _, hv⟩
    · exact ⟨_, _, _, hv⟩
  go_wp2
  go_ret
  refine ⟨rfl, ⟨⟨_, ?_, Q.ownsF_same hown' fun g hg => ?_, hv', fun g hg => ?_, fun e => by omega⟩, hgrow.os.trans o1, hgrow.tape.trans o2, hgrow.output.trans o3, ?_, fun k hk hkb hkv => ?_⟩⟩
  · simp [Ytmflfcbebeikcaa.BW, World.setCell, Array.getElem?_modify, hb2]
  · simp only [World.setCell, Array.getElem?_modify]
    rw [if_neg (fun e => hv' (by rw [hg]; exact congrArg some e.symm))]
  · rcases hfr' g hg with h | h
    · exact .inl h
    · exact .inr (by omega)
  · simp [World.setCell]; omega
  · simp only [World.setCell, Array.getElem?_modify]
    rw [if_neg (fun e => hkb e.symm), old k (by omega) hkv, hk1 k hkb]
theorem Ytmflfcbebeikcaa.string_w (b : Nat) (w : World) (p v : Value) (us : List Value) (T : TypeId) (l : List UInt8) (hb : Ytmflfcbebeikcaa.BW w b p v us T)
    (hown : w.ownsRowF 0 5 1 v l.length (Lib.byteCells l)) (hne : v.ownBlock ≠ some b) (hnil : l = [] → v = .slice none 0 0) :
    Calls Try.prog 38 #[.pointer (some ⟨b, 0, none⟩)] w fun e w' => e = .returned (.string ⟨l.toArray⟩) ∧ Ytmflfcbebeikcaa.BW w' b p v us T ∧ w'.ownsRowF 0 5 1 v l.length (Lib.byteCells l) ∧
      (w'.os = w.os ∧ w'.tape = w.tape ∧ w'.output = w.output ∧ w'.heap.size = w.heap.size) ∧ ∀ k, v.ownBlock ≠ some k → w'.heap[k]? = w.heap[k]? := by
  by_cases h0 : l = []
  · subst h0
    have hv := hnil rfl
    subst hv
    have c1 : w.drew.cell? ⟨b, 1, none⟩ = some (.slice none 0 0) := by
      have hb' : w.drew.heap[b]? = some (.cells (p :: Value.slice none 0 0 :: us).toArray T (0, 0)) := hb
      rw [Ytmflfcbebeikcaa.cells_get hb']; rfl
    have hSD : (Builtin.unsafeSliceData_ #[88] 132 #[.slice none 0 0]).run Try.prog w.drew = .ok (.pointer none) w.drew := rfl
    have hUS := Lib.run_unsafeString_none (P := Try.prog) (w := w.drew) 132 3 9 none
    go_enter Try.func38, Try.ntmps38
    go_wp2
    go_region
    all_goals
      go_wp2
      go_ret
      exact ⟨rfl, hb, hown, ⟨rfl, rfl, rfl, rfl⟩, fun _ _ => rfl⟩
  · have hl0 : l.length ≠ 0 := by simpa using h0
    obtain ⟨g, cap, cur, fz, hv, _, hg, hfz, hnc, hcm, hcs, htake⟩ : ∃ g cap cur fz, v = .slice (some ⟨g, 0, none⟩) l.length cap ∧ 0 ≤ g ∧ w.heap[g]? = some (.cells cur 5 fz) ∧ fz.2 ≤ l.length * 1 ∧ l.length ≤ cap ∧ cap ≤ maxLen ∧ cur.size = cap * 1 ∧ cur.toList.take (l.length * 1) = Lib.byteCells l := by
      rcases hown.2 with ⟨_, hz⟩ | h
      · exact absurd hz hl0
      · exact h
    subst hv
    have c1 : w.drew.cell? ⟨b, 1, none⟩ = some (.slice (some ⟨g, 0, none⟩) l.length cap) := by
      have hb' : w.drew.heap[b]? = some (.cells (p :: Value.slice (some ⟨g, 0, none⟩) l.length cap :: us).toArray T (0, 0)) := hb
      rw [Ytmflfcbebeikcaa.cells_get hb']; rfl
    have hSD : (Builtin.unsafeSliceData_ #[88] 132 #[.slice (some ⟨g, 0, none⟩) l.length cap]).run Try.prog w.drew = .ok (.pointer (some ⟨g, 0, none⟩)) w.drew := Lib.run_unsafeSliceData_row _ _ _ _ _ _ (by omega)
    have hgd : w.drew.heap[g]? = some (.cells cur 5 fz) := hg
    have hUS : (Builtin.unsafeString_ #[132, 3] 9 #[.pointer (some ⟨g, 0, none⟩), .int .i64 l.length]).run Try.prog w.drew = .ok (.string ⟨l.toArray⟩) (w.drew.freeze ⟨g, 0, none⟩ l.length) := by
      refine Lib.run_unsafeString_row w.drew 132 3 9 5 Try.underlying132 (by kernel_rfl) g cur.size (by simp [World.shape?, hgd]) l h0 (by omega) (by unfold maxLen at hcm; omega) ?_
      intro j x hx
      exact hown.cells (g := g) rfl j (.int .u8 x.toNat) (by simp [Lib.byteCells, hx])
    obtain ⟨k1, k2⟩ := Q.froze w.drew g l.length cap 5 cur fz (Lib.byteCells l) hl0 hgd hown
    have hgb : b ≠ g := fun e => hne (by rw [e]; rfl)
    have hsz : (w.drew.freeze ⟨g, 0, none⟩ l.length).heap.size = w.heap.size := by unfold World.freeze; rw [if_neg hl0]; simp
    have hos : (w.drew.freeze ⟨g, 0, none⟩ l.length).os = w.os ∧ (w.drew.freeze ⟨g, 0, none⟩ l.length).tape = w.tape ∧ (w.drew.freeze ⟨g, 0, none⟩ l.length).output = w.output := by unfold World.freeze; rw [if_neg hl0]; exact ⟨rfl, rfl, rfl⟩
    go_enter Try.func38, Try.ntmps38
    go_wp2
    go_region
    all_goals
      go_wp2
      go_ret
      exact ⟨rfl, (k2 b hgb).trans hb, k1, ⟨hos.1, hos.2.1, hos.2.2, hsz⟩, fun k hk => k2 k (fun e => hk (by rw [e]; rfl))⟩
end Go.Proofs
namespace Go.Proofs.Ytmflfcbebeikcaa.Q
open Go.RowKit
variable [Amb]
/-- What changes a builder alone. -/
theorem bld_go {G : Imm} {w w' : World} {φ : Loc} {T e : Nat} {u u' : Bool} {s s' : List UInt8} {rest : List V} (hs : Sit G w φ (hp [.bld T e u s rest])) {b : Nat} {v v' : Value} {us : List Value}
    (h1 : φ 0 0 = some (some (b, 0), 0)) (h3 : repVs G φ rest us) (h4 : ∀ u ∈ us, u.oneCell' = true) (h5 : ∀ o, G b o = none) (h8 : ∀ g, v.ownBlock = some g → (φ 0 (g + 1)).isSome = true) (h9 : ∀ g, (φ 0 (g + 1)).isSome = true → g < w.heap.size ∧ ∀ o, G g o = none) (hb : b < w.heap.size)
    (hbw : w'.heap[b]? = some (.cells (bldP b u' :: v' :: us).toArray T (0, 0))) (hown : w'.ownsRowF 0 e 1 v' s'.length (Lib.byteCells s')) (hne : v'.ownBlock ≠ some b) (hfr : ∀ g, v'.ownBlock = some g → v.ownBlock = some g ∨ w.heap.size ≤ g) (hnil : s' = [] → v' = .slice none 0 0)
    (hos : w'.os = w.os) (htape : w'.tape = w.tape) (hout : w'.output = w.output) (hsize : w.heap.size ≤ w'.heap.size) (hblk : ∀ k, k < w.heap.size → k ≠ b → v.ownBlock ≠ some k → w'.heap[k]? = w.heap[k]?) :
    ∃ φ', Sit G w' φ' (hp [.bld T e u' s' rest]) ∧ Goes G w φ (hp [.bld T e u s rest]) G w' φ' (hp [.bld T e u' s' rest]) := by
  have hlt : ∀ g, v'.ownBlock = some g → g < w'.heap.size := fun g hg => (hown.lt g hg).2
  obtain ⟨φ', hle, hz, hφ0, hnew, hold⟩ : ∃ φ' : Loc, φ.le φ' ∧ (∀ i, ¬ i = 0 → ∀ n, φ' i n = φ i n) ∧ φ' 0 0 = some (some (b, 0), 0) ∧ (∀ g, v'.ownBlock = some g → (φ' 0 (g + 1)).isSome = true) ∧ (∀ g, (φ' 0 (g + 1)).isSome = true → (φ 0 (g + 1)).isSome = true ∨ (v'.ownBlock = some g ∧ w.heap.size ≤ g)) := by
    cases hv : v'.ownBlock with
    | none => exact ⟨φ, Loc.le.refl _, fun _ _ _ => rfl, h1, fun g hg => (by cases hg), fun g hg => .inl hg⟩
    | some g0 =>
      rcases hfr g0 hv with h | h
      · exact ⟨φ, Loc.le.refl _, fun _ _ _ => rfl, h1, fun g hg => (by injection hg with hg; subst hg; exact h8 _ h), fun g hg => .inl hg⟩
      · have hno : φ 0 (g0 + 1) = none := by
          cases hq : φ 0 (g0 + 1) with
          | none => rfl
          | some z => have := (h9 g0 (by rw [hq]; rfl)).1; omega
        refine ⟨setLoc φ 0 (g0 + 1) (none, 0), setLoc_le hno, fun i hi n => setLoc_ne hi, by rw [setLoc_other (by omega)]; exact h1, fun g hg => ?_, fun g hg => ?_⟩
        · injection hg with hg; subst hg
          rw [setLoc_same]; rfl
        · by_cases hgg : g = g0
          · subst hgg; exact .inr ⟨rfl, h⟩
          · rw [setLoc_other (by omega)] at hg; exact .inl hg
  have notown : ∀ k, (∀ i ob, i = 0 → hp [Ob.bld T e u s rest] i = some ob → ¬ Owns φ i ob k) → k ≠ b ∧ v.ownBlock ≠ some k := fun k h => by
    have := h 0 _ rfl rfl
    exact ⟨fun e => this (.inl ⟨0, by rw [e]; exact h1⟩), fun e => this (.inr (h8 k e))⟩
  have hblk' : ∀ k, k < w.heap.size → (∀ i ob, i = 0 → hp [Ob.bld T e u s rest] i = some ob → ¬ Owns φ i ob k) → w'.heap[k]? = w.heap[k]? ∧ ∀ o, G k o = G k o := fun k hk h => by
    obtain ⟨a1, a2⟩ := notown k h
    exact ⟨hblk k hk a1 a2, fun _ => rfl⟩
  refine ⟨φ', hs.step (fun i => i = 0) (Imm.le.refl _) hle hz hos htape hout hsize hblk' (fun i hi => ?_) ?_ ?_ ?_ ?_ ?_⟩
  · cases i with
    | zero => exact absurd rfl hi
    | succ i => rfl
  · intro k o x hx
    have h6 := hs.inv k o x hx
    have hk := World.block_lt_of_cell? w _ h6
    have hkb : k ≠ b := fun e => by rw [e, h5] at hx; cases hx
    have hkv : v.ownBlock ≠ some k := fun e => by rw [(h9 k (h8 k e)).2] at hx; cases hx
    have := hblk k hk hkb hkv
    unfold World.cell? at h6 ⊢
    rw [this]; exact h6
  · intro i ob hi hH
    subst hi
    injection hH with hH; subst hH
    refine ⟨b, v', us, hφ0, hbw, repVs_mono (Imm.le.refl _) hle _ _ h3, h4, h5, hne, hown, hnew, fun g hg => ?_, hnil⟩
    rcases hold g hg with h | ⟨h, _⟩
    · obtain ⟨a1, a2⟩ := h9 g h
      exact ⟨by omega, a2⟩
    · refine ⟨hlt g h, fun o => ?_⟩
      rcases hfr g h with h' | h'
      · exact (h9 g (h8 g h')).2 o
      · exact hs.inv.fresh h' o
  · intro i j ob ob' k hi hj hij
    exact absurd (hi.trans hj.symm) hij
  · intro i ob k hi hH hk
    subst hi
    injection hH with hH; subst hH
    rcases hk with ⟨c, hk⟩ | hk
    · rw [hφ0] at hk
      injection hk with hk; injection hk with hk _; injection hk with hk; injection hk with hk; subst hk
      exact .inl ⟨0, _, rfl, rfl, .inl ⟨_, h1⟩⟩
    · rcases hold k hk with h | ⟨_, h⟩
      · exact .inl ⟨0, _, rfl, rfl, .inr h⟩
      · exact .inr h
  · intro i hi hH
    subst hi; cases hH
/-- A type that begins with a strings.Builder, n cells more behind it. -/
def heads (T n : Nat) : Prop := liesAt Try.prog Try.prog.depth T ((n + 2) / Try.prog.cellsOf T) 0 90 1 = true
theorem bldP_eq (b : Nat) (u : Bool) : bldP b u = match u with | true => .pointer (some ⟨b, 0, none⟩) | false => .pointer none := rfl
theorem wrStr_c (T : Nat) (u : Bool) (s : List UInt8) (rest : List V) (x : Str) (hT : heads T rest.length) (hl : s.length + x.length ≤ 140737488355328) :
    PFun Try.prog 37 [.ptr 0 0, sv' x] [.bld T 5 u s rest] (.tup [iv x.length, .d (.raw .nilIface)]) [.bld T 5 true (s ++ x) rest] := by
  refine ⟨⟨_, Try.func37, by kernel_rfl, by kernel_rfl⟩, fun G w φ us hs hu => ?_⟩
  obtain ⟨v0, vs, rfl, ⟨b, c, hp0, rfl⟩, v1, vs1, rfl, hv1, hvs⟩ := hu
  have hv1 : v1 = .string ⟨x.toArray⟩ := hv1
  have hvs : vs1 = [] := hvs
  subst hv1; subst hvs
  obtain ⟨b', v, us, h1, h2, h3, h4, h5, h6, h7, h8, h9, h10⟩ := hs.holds 0 _ rfl
  rw [h1] at hp0; injection hp0 with e1; injection e1 with e1 e2; injection e1 with e1; injection e1 with e1; subst e1
  have hlen := repVs_len h3
  have hsz : (⟨x.toArray⟩ : ByteArray).size = x.length := by simp [ByteArray.size]
  have key := Ytmflfcbebeikcaa.wrStr_w b' w u v us T ⟨x.toArray⟩ s.length (Lib.byteCells s) (by rw [← bldP_eq]; exact h2) (by rw [hlen]; exact hT) h7 h6 (by rw [hsz]; exact hl) (fun e => h10 (List.eq_nil_of_length_eq_zero e))
  refine key.mono ?_
  rintro e w' ⟨rfl, W⟩
  obtain ⟨v', q1, q2, q3, q4, q5⟩ := W.bw
  rw [hsz] at q2 q5
  have hcells : Lib.byteCells s ++ Lib.strCells ⟨x.toArray⟩ = Lib.byteCells (s ++ x) := by rw [Lib.strCells_eq, Lib.byteCells_append]
  rw [hcells, ← List.length_append] at q2
  obtain ⟨φ', g1, g2⟩ := bld_go (u' := true) (s' := s ++ x) hs h1 h3 h4 h5 h8 h9 (Array.getElem?_eq_some_iff.1 h2).1 q1 q2 q3 q4 (fun e => q5 (by have := congrArg List.length e; rw [List.length_append] at this; exact this)) W.os W.tape W.output W.size W.block
  refine ⟨_, _, _, G, φ', rfl, ⟨rfl, rfl⟩, Nat.le_refl _, g1, g2, ?_⟩
  exact ⟨[_, _], by rw [hsz], _, _, rfl, rfl, _, _, rfl, ⟨rfl, rfl⟩, rfl⟩
theorem wrByte_c (T : Nat) (u : Bool) (s : List UInt8) (rest : List V) (x : UInt8) (hT : heads T rest.length) (hl : s.length + 1 ≤ 140737488355328) :
    PFun Try.prog 36 [.ptr 0 0, .d (.int .u8 x.toNat)] [.bld T 5 u s rest] (.d (.raw .nilIface)) [.bld T 5 true (s ++ [x]) rest] := by
  refine ⟨⟨_, Try.func36, by kernel_rfl, by kernel_rfl⟩, fun G w φ us hs hu => ?_⟩
  obtain ⟨v0, vs, rfl, ⟨b, c, hp0, rfl⟩, v1, vs1, rfl, hv1, hvs⟩ := hu
  have hv1 : v1 = .int .u8 x.toNat := hv1
  have hvs : vs1 = [] := hvs
  subst hv1; subst hvs
  obtain ⟨b', v, us, h1, h2, h3, h4, h5, h6, h7, h8, h9, h10⟩ := hs.holds 0 _ rfl
  rw [h1] at hp0; injection hp0 with e1; injection e1 with e1 e2; injection e1 with e1; injection e1 with e1; subst e1
  have hlen := repVs_len h3
  have key := Ytmflfcbebeikcaa.wrByte_w b' w u v us T x.toNat s.length (Lib.byteCells s) (by rw [← bldP_eq]; exact h2) (by rw [hlen]; exact hT) h7 h6 hl
  refine key.mono ?_
  rintro e w' ⟨rfl, W⟩
  obtain ⟨v', q1, q2, q3, q4, q5⟩ := W.bw
  have hcells : Lib.byteCells s ++ [Value.int .u8 x.toNat] = Lib.byteCells (s ++ [x]) := by rw [Lib.byteCells_append]; rfl
  rw [hcells, show s.length + 1 = (s ++ [x]).length by simp] at q2
  obtain ⟨φ', g1, g2⟩ := bld_go (u' := true) (s' := s ++ [x]) hs h1 h3 h4 h5 h8 h9 (Array.getElem?_eq_some_iff.1 h2).1 q1 q2 q3 q4 (fun e => absurd e (by simp)) W.os W.tape W.output W.size W.block
  exact ⟨_, _, _, G, φ', rfl, ⟨rfl, rfl⟩, Nat.le_refl _, g1, g2, ⟨rfl, rfl⟩⟩
theorem string_c (T : Nat) (u : Bool) (s : List UInt8) (rest : List V) : PFun Try.prog 38 [.ptr 0 0] [.bld T 5 u s rest] (sv' s) [.bld T 5 u s rest] := by
  refine ⟨⟨_, Try.func38, by kernel_rfl, by kernel_rfl⟩, fun G w φ us hs hu => ?_⟩
  obtain ⟨v0, vs, rfl, ⟨b, c, hp0, rfl⟩, hvs⟩ := hu
  have hvs : vs = [] := hvs
  subst hvs
  obtain ⟨b', v, us, h1, h2, h3, h4, h5, h6, h7, h8, h9, h10⟩ := hs.holds 0 _ rfl
  rw [h1] at hp0; injection hp0 with e1; injection e1 with e1 e2; injection e1 with e1; injection e1 with e1; subst e1
  refine (Ytmflfcbebeikcaa.string_w b' w (bldP b' u) v us T s h2 h7 h6 h10).mono ?_
  rintro e w' ⟨rfl, q1, q2, ⟨o1, o2, o3, o4⟩, q3⟩
  obtain ⟨φ', g1, g2⟩ := bld_go (u' := u) (s' := s) hs h1 h3 h4 h5 h8 h9 (Array.getElem?_eq_some_iff.1 h2).1 q1 q2 h6 (fun g hg => .inl hg) h10 o1 o2 o3 (Nat.le_of_eq o4.symm) (fun k _ _ hk => q3 k hk)
  exact ⟨_, _, _, G, φ', rfl, ⟨rfl, rfl⟩, Nat.le_refl _, g1, g2, rfl⟩
end Go.Proofs.Ytmflfcbebeikcaa.Q

namespace Go.Proofs.Ytmflfcbebeikcaa.Q
open Go.RowKit
variable [Amb]
def eqL {α : Type} (p : α → α → Bool) : List α → List α → Bool
  | [], [] => true
  | a :: xs, b :: ys => p a b && eqL p xs ys
  | _, _ => false
theorem eqL_len {α : Type} {p : α → α → Bool} : ∀ {xs ys : List α}, xs.length ≠ ys.length → eqL p xs ys = false
  | [], [], h => absurd rfl h
  | [], b :: ys, _ => rfl
  | a :: xs, [], _ => rfl
  | a :: xs, b :: ys, h => by rw [eqL, eqL_len (by simpa using h), Bool.and_false]
theorem eqL_at {α : Type} {p : α → α → Bool} {xs ys : List α} {k : Nat} (h : k < xs.length) (h' : k < ys.length) : eqL p (xs.drop k) (ys.drop k) = (p xs[k] ys[k] && eqL p (xs.drop (k + 1)) (ys.drop (k + 1))) := by
  rw [List.drop_eq_getElem_cons h, List.drop_eq_getElem_cons h']; rfl
theorem eqL_end {α : Type} {p : α → α → Bool} {xs ys : List α} {k : Nat} (h : xs.length ≤ k) (h' : ys.length ≤ k) : eqL p (xs.drop k) (ys.drop k) = true := by
  rw [List.drop_of_length_le h, List.drop_of_length_le h']; rfl
mutual
def Ex.same : Ex → Ex → Bool
  | ⟨op, mon, name, n, kids, _⟩, ⟨op', mon', name', n', kids', _⟩ => (op == op') && (mon == mon') && (name == name') && (n == n') && Ex.sames kids kids'
def Ex.sames : List Ex → List Ex → Bool
  | [], [] => true
  | a :: xs, b :: ys => a.same b && Ex.sames xs ys
  | _, _ => false
end
theorem Ex.sames_eqL : ∀ xs ys : List Ex, Ex.sames xs ys = eqL Ex.same xs ys
  | [], [] => by rw [Ex.sames, eqL]
  | a :: xs, b :: ys => by rw [Ex.sames, eqL, Ex.sames_eqL xs ys]
  | [], b :: ys => by rw [Ex.sames, eqL] <;> simp
  | a :: xs, [] => by rw [Ex.sames, eqL] <;> simp
theorem Ex.same_eq (a b : Ex) : a.same b = ((a.op == b.op) && (a.mon == b.mon) && (a.name == b.name) && (a.n == b.n) && eqL Ex.same a.kids b.kids) := by
  cases a; cases b; rw [Ex.same, Ex.sames_eqL]
mutual
def St.same : St → St → Bool
  | ⟨kind, mon, name, n, e, blocks, _⟩, ⟨kind', mon', name', n', e', blocks', _⟩ => (kind == kind') && (mon == mon') && (name == name') && (n == n') && e.same e' && St.sameB blocks blocks'
def St.sameL : List St → List St → Bool
  | [], [] => true
  | a :: xs, b :: ys => a.same b && St.sameL xs ys
  | _, _ => false
def St.sameB : List (List St) → List (List St) → Bool
  | [], [] => true
  | a :: xs, b :: ys => St.sameL a b && St.sameB xs ys
  | _, _ => false
end
theorem St.sameL_eqL : ∀ xs ys : List St, St.sameL xs ys = eqL St.same xs ys
  | [], [] => by rw [St.sameL, eqL]
  | a :: xs, b :: ys => by rw [St.sameL, eqL, St.sameL_eqL xs ys]
  | [], b :: ys => by rw [St.sameL, eqL] <;> simp
  | a :: xs, [] => by rw [St.sameL, eqL] <;> simp
theorem St.sameB_eqL : ∀ xs ys : List (List St), St.sameB xs ys = eqL (eqL St.same) xs ys
  | [], [] => by rw [St.sameB, eqL]
  | a :: xs, b :: ys => by rw [St.sameB, eqL, St.sameB_eqL xs ys, St.sameL_eqL]
  | [], b :: ys => by rw [St.sameB, eqL] <;> simp
  | a :: xs, [] => by rw [St.sameB, eqL] <;> simp
theorem St.same_eq (a b : St) : a.same b = ((a.kind == b.kind) && (a.mon == b.mon) && (a.name == b.name) && (a.n == b.n) && a.e.same b.e && eqL (eqL St.same) a.blocks b.blocks) := by
  cases a; cases b; rw [St.same, St.sameB_eqL]
def Vr.same (a b : Vr) : Bool := (a.name == b.name) && (a.type == b.type) && (a.lo == b.lo) && (a.hi == b.hi) && (a.init == b.init)
def Mt.same (a b : Mt) : Bool := (a.name == b.name) && eqL St.same a.body b.body
def Mo.same (a b : Mo) : Bool := (a.name == b.name) && eqL Vr.same a.vars b.vars && eqL Mt.same a.methods b.methods
def Ro.same (a b : Ro) : Bool := (a.name == b.name) && (a.star == b.star) && (a.count == b.count) && eqL St.same a.body b.body
def Pg.same (a b : Pg) : Bool := eqL Mo.same a.mons b.mons && eqL Ro.same a.roles b.roles
/-- Lists that are not longer than any machine holds. -/
abbrev big : Nat := 1099511627776
inductive Ex.Fit : Ex → Prop
  | mk {op : Int} {mon name : Str} {n : Int} {kids : List Ex} {pl : Int} (h : kids.length < big) (k : ∀ y ∈ kids, Ex.Fit y) : Ex.Fit ⟨op, mon, name, n, kids, pl⟩
inductive St.Fit : St → Prop
  | mk {kind : Int} {mon name : Str} {n : Int} {e : Ex} {blocks : List (List St)} {pl : Int} (he : e.Fit) (h : blocks.length < big) (hb : ∀ b ∈ blocks, b.length < big) (k : ∀ b ∈ blocks, ∀ y ∈ b, St.Fit y) : St.Fit ⟨kind, mon, name, n, e, blocks, pl⟩
structure Bd (l : List St) : Prop where
  len : l.length < big
  fit : ∀ y ∈ l, y.Fit
structure Pg.Fit (p : Pg) : Prop where
  mons : p.mons.length < big
  roles : p.roles.length < big
  vars : ∀ m ∈ p.mons, m.vars.length < big
  meths : ∀ m ∈ p.mons, m.methods.length < big
  body : ∀ m ∈ p.mons, ∀ f ∈ m.methods, Bd f.body
  rbody : ∀ r ∈ p.roles, Bd r.body

theorem Ex.atRow {l : List (Ex)} {k : Nat} {K : List D → Prop} (h : k < l.length) (c : K [.int .i64 l[k].op, .str l[k].mon, .str l[k].name, .int .i64 l[k].n, .sl (l[k].kids.map Ex.e), .int .i64 l[k].pl]) : PIdx (l.map Ex.e) (k : Int) K := PIdx.map (get_at h) (by
  have e : Ex.e l[k] = [.int .i64 l[k].op, .str l[k].mon, .str l[k].name, .int .i64 l[k].n, .sl (l[k].kids.map Ex.e), .int .i64 l[k].pl] := by rw [Ex.e_row]; rfl
  rw [e]; exact c)
theorem eqfEx_c (g : FuncId) (p : Ex → Ex → Bool) (xs ys : List (Ex)) (h : ∀ a ∈ xs, ∀ b ∈ ys, PFun Try.prog g [Ex.v a, Ex.v b] [] (.d (.bool (p a b))) []) (hl : xs.length < big) :
    PFun Try.prog 162 [.d (.sl (xs.map Ex.e)), .d (.sl (ys.map Ex.e)), .fn (.func g) [] []] [] (.d (.bool (eqL p xs ys))) [] := by
  refine fn_sem pok 32 0 Try.func162 (by kernel_rfl) rfl rfl rfl rfl ?_
  refine SWp.go pok (by kernel_rfl) ?_
  by_cases hlen : xs.length = ys.length
  case neg =>
    refine brP_true (by simp; omega) ?_
    exact fin1 (dbool (eqL_len hlen).symm)
  refine brP_false (by simp; omega) ?_
  refine SWp.loop (fun k : Nat => k ≤ xs.length ∧ eqL p (xs.drop k) (ys.drop k) = eqL p xs ys) (fun k => ([(1, .d (.sl (ys.map Ex.e))), (2, .fn (.func g) [] []), (15, .d (.sl (xs.map Ex.e))), (16, iv (xs.map Ex.e).length), (17, iv k)], [])) (fun k => xs.length - k) 0 ⟨Nat.zero_le _, rfl⟩ (Le.same ⟨rfl, rfl, rfl, rfl, rfl, trivial⟩) (fun k hk => ?_)
  obtain ⟨hkl, hk⟩ := hk
  refine SWp.go pok (by kernel_rfl) ?_
  refine brP_split (fun h1 => ?_) (fun h1 => ?_)
  · have hlt : k < xs.length := by simpa using h1
    have hlt' : k < ys.length := by omega
    have hat := eqL_at (p := p) hlt hlt'
    refine Ex.atRow hlt ?_
    refine Ex.atRow hlt' ?_
    refine PFun.call (h xs[k] (List.getElem_mem hlt) ys[k] (List.getElem_mem hlt')) ?_
    refine brP_split (fun h2 => ?_) (fun h2 => ?_)
    · have h2 : p xs[k] ys[k] = false := by simpa using h2
      exact fin1 (dbool (by rw [← hk, hat, h2]; rfl))
    · have h2 : p xs[k] ys[k] = true := by simpa using h2
      exact ⟨k + 1, ⟨hlt, by rw [← hk, hat, h2]; rfl⟩, by omega, .inr ⟨[], ⟨rfl, rfl⟩, rfl, rfl, rfl, rfl, rfl, sint (wrap_nat k (by simp only [big] at hl; omega)), trivial⟩⟩
  · have hge : xs.length ≤ k := by simp at h1; omega
    exact fin1 (dbool (by rw [← hk, eqL_end hge (by omega)]))

theorem St.atRow {l : List (St)} {k : Nat} {K : List D → Prop} (h : k < l.length) (c : K [.int .i64 l[k].kind, .str l[k].mon, .str l[k].name, .int .i64 l[k].n, .int .i64 l[k].e.op, .str l[k].e.mon, .str l[k].e.name, .int .i64 l[k].e.n, .sl (l[k].e.kids.map Ex.e), .int .i64 l[k].e.pl, .sl (l[k].blocks.map blk), .int .i64 l[k].pl]) : PIdx (l.map St.c) (k : Int) K := PIdx.map (get_at h) (by
  have e : St.c l[k] = [.int .i64 l[k].kind, .str l[k].mon, .str l[k].name, .int .i64 l[k].n, .int .i64 l[k].e.op, .str l[k].e.mon, .str l[k].e.name, .int .i64 l[k].e.n, .sl (l[k].e.kids.map Ex.e), .int .i64 l[k].e.pl, .sl (l[k].blocks.map blk), .int .i64 l[k].pl] := by rw [St.c_eq, Ex.e_row]; rfl
  rw [e]; exact c)
theorem eqfSt_c (g : FuncId) (p : St → St → Bool) (xs ys : List (St)) (h : ∀ a ∈ xs, ∀ b ∈ ys, PFun Try.prog g [St.v a, St.v b] [] (.d (.bool (p a b))) []) (hl : xs.length < big) :
    PFun Try.prog 112 [.d (.sl (xs.map St.c)), .d (.sl (ys.map St.c)), .fn (.func g) [] []] [] (.d (.bool (eqL p xs ys))) [] := by
  refine fn_sem pok 32 0 Try.func112 (by kernel_rfl) rfl rfl rfl rfl ?_
  refine SWp.go pok (by kernel_rfl) ?_
  by_cases hlen : xs.length = ys.length
  case neg =>
    refine brP_true (by simp; omega) ?_
    exact fin1 (dbool (eqL_len hlen).symm)
  refine brP_false (by simp; omega) ?_
  refine SWp.loop (fun k : Nat => k ≤ xs.length ∧ eqL p (xs.drop k) (ys.drop k) = eqL p xs ys) (fun k => ([(1, .d (.sl (ys.map St.c))), (2, .fn (.func g) [] []), (15, .d (.sl (xs.map St.c))), (16, iv (xs.map St.c).length), (17, iv k)], [])) (fun k => xs.length - k) 0 ⟨Nat.zero_le _, rfl⟩ (Le.same ⟨rfl, rfl, rfl, rfl, rfl, trivial⟩) (fun k hk => ?_)
  obtain ⟨hkl, hk⟩ := hk
  refine SWp.go pok (by kernel_rfl) ?_
  refine brP_split (fun h1 => ?_) (fun h1 => ?_)
  · have hlt : k < xs.length := by simpa using h1
    have hlt' : k < ys.length := by omega
    have hat := eqL_at (p := p) hlt hlt'
    refine St.atRow hlt ?_
    refine St.atRow hlt' ?_
    refine PFun.call (h xs[k] (List.getElem_mem hlt) ys[k] (List.getElem_mem hlt')) ?_
    refine brP_split (fun h2 => ?_) (fun h2 => ?_)
    · have h2 : p xs[k] ys[k] = false := by simpa using h2
      exact fin1 (dbool (by rw [← hk, hat, h2]; rfl))
    · have h2 : p xs[k] ys[k] = true := by simpa using h2
      exact ⟨k + 1, ⟨hlt, by rw [← hk, hat, h2]; rfl⟩, by omega, .inr ⟨[], ⟨rfl, rfl⟩, rfl, rfl, rfl, rfl, rfl, sint (wrap_nat k (by simp only [big] at hl; omega)), trivial⟩⟩
  · have hge : xs.length ≤ k := by simp at h1; omega
    exact fin1 (dbool (by rw [← hk, eqL_end hge (by omega)]))

theorem Bl.atRow {l : List (List St)} {k : Nat} {K : List D → Prop} (h : k < l.length) (c : K [.sl (l[k].map St.c)]) : PIdx (l.map blk) (k : Int) K := PIdx.map (get_at h) (by
  have e : blk l[k] = [.sl (l[k].map St.c)] := rfl
  rw [e]; exact c)
theorem eqfBl_c (g : FuncId) (p : List St → List St → Bool) (xs ys : List (List St)) (h : ∀ a ∈ xs, ∀ b ∈ ys, PFun Try.prog g [V.d (.sl (a.map St.c)), V.d (.sl (b.map St.c))] [] (.d (.bool (p a b))) []) (hl : xs.length < big) :
    PFun Try.prog 143 [.d (.sl (xs.map blk)), .d (.sl (ys.map blk)), .fn (.func g) [] []] [] (.d (.bool (eqL p xs ys))) [] := by
  refine fn_sem pok 32 0 Try.func143 (by kernel_rfl) rfl rfl rfl rfl ?_
  refine SWp.go pok (by kernel_rfl) ?_
  by_cases hlen : xs.length = ys.length
  case neg =>
    refine brP_true (by simp; omega) ?_
    exact fin1 (dbool (eqL_len hlen).symm)
  refine brP_false (by simp; omega) ?_
  refine SWp.loop (fun k : Nat => k ≤ xs.length ∧ eqL p (xs.drop k) (ys.drop k) = eqL p xs ys) (fun k => ([(1, .d (.sl (ys.map blk))), (2, .fn (.func g) [] []), (15, .d (.sl (xs.map blk))), (16, iv (xs.map blk).length), (17, iv k)], [])) (fun k => xs.length - k) 0 ⟨Nat.zero_le _, rfl⟩ (Le.same ⟨rfl, rfl, rfl, rfl, rfl, trivial⟩) (fun k hk => ?_)
  obtain ⟨hkl, hk⟩ := hk
  refine SWp.go pok (by kernel_rfl) ?_
  refine brP_split (fun h1 => ?_) (fun h1 => ?_)
  · have hlt : k < xs.length := by simpa using h1
    have hlt' : k < ys.length := by omega
    have hat := eqL_at (p := p) hlt hlt'
    refine Bl.atRow hlt ?_
    refine Bl.atRow hlt' ?_
    refine PFun.call (h xs[k] (List.getElem_mem hlt) ys[k] (List.getElem_mem hlt')) ?_
    refine brP_split (fun h2 => ?_) (fun h2 => ?_)
    · have h2 : p xs[k] ys[k] = false := by simpa using h2
      exact fin1 (dbool (by rw [← hk, hat, h2]; rfl))
    · have h2 : p xs[k] ys[k] = true := by simpa using h2
      exact ⟨k + 1, ⟨hlt, by rw [← hk, hat, h2]; rfl⟩, by omega, Le.same ⟨rfl, rfl, rfl, rfl, sint (wrap_nat k (by simp only [big] at hl; omega)), trivial⟩⟩
  · have hge : xs.length ≤ k := by simp at h1; omega
    exact fin1 (dbool (by rw [← hk, eqL_end hge (by omega)]))

theorem Vr.atRow {l : List (Vr)} {k : Nat} {K : List D → Prop} (h : k < l.length) (c : K [.str l[k].name, .int .i64 l[k].type, .int .i64 l[k].lo, .int .i64 l[k].hi, .int .i64 l[k].init, .int .i64 l[k].pl]) : PIdx (l.map Vr.c) (k : Int) K := PIdx.map (get_at h) (by
  have e : Vr.c l[k] = [.str l[k].name, .int .i64 l[k].type, .int .i64 l[k].lo, .int .i64 l[k].hi, .int .i64 l[k].init, .int .i64 l[k].pl] := rfl
  rw [e]; exact c)
theorem eqfVr_c (g : FuncId) (p : Vr → Vr → Bool) (xs ys : List (Vr)) (h : ∀ a ∈ xs, ∀ b ∈ ys, PFun Try.prog g [Vr.v a, Vr.v b] [] (.d (.bool (p a b))) []) (hl : xs.length < big) :
    PFun Try.prog 71 [.d (.sl (xs.map Vr.c)), .d (.sl (ys.map Vr.c)), .fn (.func g) [] []] [] (.d (.bool (eqL p xs ys))) [] := by
  refine fn_sem pok 32 0 Try.func71 (by kernel_rfl) rfl rfl rfl rfl ?_
  refine SWp.go pok (by kernel_rfl) ?_
  by_cases hlen : xs.length = ys.length
  case neg =>
    refine brP_true (by simp; omega) ?_
    exact fin1 (dbool (eqL_len hlen).symm)
  refine brP_false (by simp; omega) ?_
  refine SWp.loop (fun k : Nat => k ≤ xs.length ∧ eqL p (xs.drop k) (ys.drop k) = eqL p xs ys) (fun k => ([(1, .d (.sl (ys.map Vr.c))), (2, .fn (.func g) [] []), (15, .d (.sl (xs.map Vr.c))), (16, iv (xs.map Vr.c).length), (17, iv k)], [])) (fun k => xs.length - k) 0 ⟨Nat.zero_le _, rfl⟩ (Le.same ⟨rfl, rfl, rfl, rfl, rfl, trivial⟩) (fun k hk => ?_)
  obtain ⟨hkl, hk⟩ := hk
  refine SWp.go pok (by kernel_rfl) ?_
  refine brP_split (fun h1 => ?_) (fun h1 => ?_)
  · have hlt : k < xs.length := by simpa using h1
    have hlt' : k < ys.length := by omega
    have hat := eqL_at (p := p) hlt hlt'
    refine Vr.atRow hlt ?_
    refine Vr.atRow hlt' ?_
    refine PFun.call (h xs[k] (List.getElem_mem hlt) ys[k] (List.getElem_mem hlt')) ?_
    refine brP_split (fun h2 => ?_) (fun h2 => ?_)
    · have h2 : p xs[k] ys[k] = false := by simpa using h2
      exact fin1 (dbool (by rw [← hk, hat, h2]; rfl))
    · have h2 : p xs[k] ys[k] = true := by simpa using h2
      exact ⟨k + 1, ⟨hlt, by rw [← hk, hat, h2]; rfl⟩, by omega, .inr ⟨[], ⟨rfl, rfl⟩, rfl, rfl, rfl, rfl, rfl, sint (wrap_nat k (by simp only [big] at hl; omega)), trivial⟩⟩
  · have hge : xs.length ≤ k := by simp at h1; omega
    exact fin1 (dbool (by rw [← hk, eqL_end hge (by omega)]))

theorem Mt.atRow {l : List (Mt)} {k : Nat} {K : List D → Prop} (h : k < l.length) (c : K [.str l[k].name, .sl (l[k].body.map St.c), .int .i64 l[k].pl]) : PIdx (l.map Mt.c) (k : Int) K := PIdx.map (get_at h) (by
  have e : Mt.c l[k] = [.str l[k].name, .sl (l[k].body.map St.c), .int .i64 l[k].pl] := rfl
  rw [e]; exact c)
theorem eqfMt_c (g : FuncId) (p : Mt → Mt → Bool) (xs ys : List (Mt)) (h : ∀ a ∈ xs, ∀ b ∈ ys, PFun Try.prog g [Mt.v a, Mt.v b] [] (.d (.bool (p a b))) []) (hl : xs.length < big) :
    PFun Try.prog 73 [.d (.sl (xs.map Mt.c)), .d (.sl (ys.map Mt.c)), .fn (.func g) [] []] [] (.d (.bool (eqL p xs ys))) [] := by
  refine fn_sem pok 32 0 Try.func73 (by kernel_rfl) rfl rfl rfl rfl ?_
  refine SWp.go pok (by kernel_rfl) ?_
  by_cases hlen : xs.length = ys.length
  case neg =>
    refine brP_true (by simp; omega) ?_
    exact fin1 (dbool (eqL_len hlen).symm)
  refine brP_false (by simp; omega) ?_
  refine SWp.loop (fun k : Nat => k ≤ xs.length ∧ eqL p (xs.drop k) (ys.drop k) = eqL p xs ys) (fun k => ([(1, .d (.sl (ys.map Mt.c))), (2, .fn (.func g) [] []), (15, .d (.sl (xs.map Mt.c))), (16, iv (xs.map Mt.c).length), (17, iv k)], [])) (fun k => xs.length - k) 0 ⟨Nat.zero_le _, rfl⟩ (Le.same ⟨rfl, rfl, rfl, rfl, rfl, trivial⟩) (fun k hk => ?_)
  obtain ⟨hkl, hk⟩ := hk
  refine SWp.go pok (by kernel_rfl) ?_
  refine brP_split (fun h1 => ?_) (fun h1 => ?_)
  · have hlt : k < xs.length := by simpa using h1
    have hlt' : k < ys.length := by omega
    have hat := eqL_at (p := p) hlt hlt'
    refine Mt.atRow hlt ?_
    refine Mt.atRow hlt' ?_
    refine PFun.call (h xs[k] (List.getElem_mem hlt) ys[k] (List.getElem_mem hlt')) ?_
    refine brP_split (fun h2 => ?_) (fun h2 => ?_)
    · have h2 : p xs[k] ys[k] = false := by simpa using h2
      exact fin1 (dbool (by rw [← hk, hat, h2]; rfl))
    · have h2 : p xs[k] ys[k] = true := by simpa using h2
      exact ⟨k + 1, ⟨hlt, by rw [← hk, hat, h2]; rfl⟩, by omega, .inr ⟨[], ⟨rfl, rfl⟩, rfl, rfl, rfl, rfl, rfl, sint (wrap_nat k (by simp only [big] at hl; omega)), trivial⟩⟩
  · have hge : xs.length ≤ k := by simp at h1; omega
    exact fin1 (dbool (by rw [← hk, eqL_end hge (by omega)]))

theorem Mo.atRow {l : List (Mo)} {k : Nat} {K : List D → Prop} (h : k < l.length) (c : K [.str l[k].name, .sl (l[k].vars.map Vr.c), .sl (l[k].methods.map Mt.c), .int .i64 l[k].pl]) : PIdx (l.map Mo.c) (k : Int) K := PIdx.map (get_at h) (by
  have e : Mo.c l[k] = [.str l[k].name, .sl (l[k].vars.map Vr.c), .sl (l[k].methods.map Mt.c), .int .i64 l[k].pl] := rfl
  rw [e]; exact c)
theorem eqfMo_c (g : FuncId) (p : Mo → Mo → Bool) (xs ys : List (Mo)) (h : ∀ a ∈ xs, ∀ b ∈ ys, PFun Try.prog g [Mo.v a, Mo.v b] [] (.d (.bool (p a b))) []) (hl : xs.length < big) :
    PFun Try.prog 39 [.d (.sl (xs.map Mo.c)), .d (.sl (ys.map Mo.c)), .fn (.func g) [] []] [] (.d (.bool (eqL p xs ys))) [] := by
  refine fn_sem pok 32 0 Try.func39 (by kernel_rfl) rfl rfl rfl rfl ?_
  refine SWp.go pok (by kernel_rfl) ?_
  by_cases hlen : xs.length = ys.length
  case neg =>
    refine brP_true (by simp; omega) ?_
    exact fin1 (dbool (eqL_len hlen).symm)
  refine brP_false (by simp; omega) ?_
  refine SWp.loop (fun k : Nat => k ≤ xs.length ∧ eqL p (xs.drop k) (ys.drop k) = eqL p xs ys) (fun k => ([(1, .d (.sl (ys.map Mo.c))), (2, .fn (.func g) [] []), (15, .d (.sl (xs.map Mo.c))), (16, iv (xs.map Mo.c).length), (17, iv k)], [])) (fun k => xs.length - k) 0 ⟨Nat.zero_le _, rfl⟩ (Le.same ⟨rfl, rfl, rfl, rfl, rfl, trivial⟩) (fun k hk => ?_)
  obtain ⟨hkl, hk⟩ := hk
  refine SWp.go pok (by kernel_rfl) ?_
  refine brP_split (fun h1 => ?_) (fun h1 => ?_)
  · have hlt : k < xs.length := by simpa using h1
    have hlt' : k < ys.length := by omega
    have hat := eqL_at (p := p) hlt hlt'
    refine Mo.atRow hlt ?_
    refine Mo.atRow hlt' ?_
    refine PFun.call (h xs[k] (List.getElem_mem hlt) ys[k] (List.getElem_mem hlt')) ?_
    refine brP_split (fun h2 => ?_) (fun h2 => ?_)
    · have h2 : p xs[k] ys[k] = false := by simpa using h2
      exact fin1 (dbool (by rw [← hk, hat, h2]; rfl))
    · have h2 : p xs[k] ys[k] = true := by simpa using h2
      exact ⟨k + 1, ⟨hlt, by rw [← hk, hat, h2]; rfl⟩, by omega, .inr ⟨[], ⟨rfl, rfl⟩, rfl, rfl, rfl, rfl, rfl, sint (wrap_nat k (by simp only [big] at hl; omega)), trivial⟩⟩
  · have hge : xs.length ≤ k := by simp at h1; omega
    exact fin1 (dbool (by rw [← hk, eqL_end hge (by omega)]))

theorem Ro.atRow {l : List (Ro)} {k : Nat} {K : List D → Prop} (h : k < l.length) (c : K [.str l[k].name, .bool l[k].star, .int .i64 l[k].count, .sl (l[k].body.map St.c), .int .i64 l[k].pl]) : PIdx (l.map Ro.c) (k : Int) K := PIdx.map (get_at h) (by
  have e : Ro.c l[k] = [.str l[k].name, .bool l[k].star, .int .i64 l[k].count, .sl (l[k].body.map St.c), .int .i64 l[k].pl] := rfl
  rw [e]; exact c)
theorem eqfRo_c (g : FuncId) (p : Ro → Ro → Bool) (xs ys : List (Ro)) (h : ∀ a ∈ xs, ∀ b ∈ ys, PFun Try.prog g [Ro.v a, Ro.v b] [] (.d (.bool (p a b))) []) (hl : xs.length < big) :
    PFun Try.prog 41 [.d (.sl (xs.map Ro.c)), .d (.sl (ys.map Ro.c)), .fn (.func g) [] []] [] (.d (.bool (eqL p xs ys))) [] := by
  refine fn_sem pok 32 0 Try.func41 (by kernel_rfl) rfl rfl rfl rfl ?_
  refine SWp.go pok (by kernel_rfl) ?_
  by_cases hlen : xs.length = ys.length
  case neg =>
    refine brP_true (by simp; omega) ?_
    exact fin1 (dbool (eqL_len hlen).symm)
  refine brP_false (by simp; omega) ?_
  refine SWp.loop (fun k : Nat => k ≤ xs.length ∧ eqL p (xs.drop k) (ys.drop k) = eqL p xs ys) (fun k => ([(1, .d (.sl (ys.map Ro.c))), (2, .fn (.func g) [] []), (15, .d (.sl (xs.map Ro.c))), (16, iv (xs.map Ro.c).length), (17, iv k)], [])) (fun k => xs.length - k) 0 ⟨Nat.zero_le _, rfl⟩ (Le.same ⟨rfl, rfl, rfl, rfl, rfl, trivial⟩) (fun k hk => ?_)
  obtain ⟨hkl, hk⟩ := hk
  refine SWp.go pok (by kernel_rfl) ?_
  refine brP_split (fun h1 => ?_) (fun h1 => ?_)
  · have hlt : k < xs.length := by simpa using h1
    have hlt' : k < ys.length := by omega
    have hat := eqL_at (p := p) hlt hlt'
    refine Ro.atRow hlt ?_
    refine Ro.atRow hlt' ?_
    refine PFun.call (h xs[k] (List.getElem_mem hlt) ys[k] (List.getElem_mem hlt')) ?_
    refine brP_split (fun h2 => ?_) (fun h2 => ?_)
    · have h2 : p xs[k] ys[k] = false := by simpa using h2
      exact fin1 (dbool (by rw [← hk, hat, h2]; rfl))
    · have h2 : p xs[k] ys[k] = true := by simpa using h2
      exact ⟨k + 1, ⟨hlt, by rw [← hk, hat, h2]; rfl⟩, by omega, .inr ⟨[], ⟨rfl, rfl⟩, rfl, rfl, rfl, rfl, rfl, sint (wrap_nat k (by simp only [big] at hl; omega)), trivial⟩⟩
  · have hge : xs.length ≤ k := by simp at h1; omega
    exact fin1 (dbool (by rw [← hk, eqL_end hge (by omega)]))


theorem sameExpr_c {a : Ex} (ha : a.Fit) : ∀ {b : Ex}, b.Fit → PFun Try.prog 142 [a.v, b.v] [] (.d (.bool (a.same b))) [] := by
  induction ha with
  | @mk op mon name n kids pl h k ih =>
    intro b hb
    cases hb with
    | @mk op' mon' name' n' kids' pl' h' k' =>
    rw [Ex.same_eq]
    refine fn_sem pok 38 0 Try.func142 (by kernel_rfl) rfl rfl rfl rfl ?_
    refine SWp.go pok (by kernel_rfl) ?_
    dsimp only
    by_cases e1 : (op == op') = true
    case neg =>
      rw [Bool.not_eq_true] at e1
      repeat refine brP_false e1 ?_
      exact fin1 (dbool (by rw [e1]; rfl))
    repeat refine brP_true e1 ?_
    by_cases e2 : (mon == mon') = true
    case neg =>
      rw [Bool.not_eq_true] at e2
      repeat refine brP_false e2 ?_
      exact fin1 (dbool (by rw [e1, e2]; rfl))
    repeat refine brP_true e2 ?_
    by_cases e3 : (name == name') = true
    case neg =>
      rw [Bool.not_eq_true] at e3
      repeat refine brP_false e3 ?_
      exact fin1 (dbool (by rw [e1, e2, e3]; rfl))
    repeat refine brP_true e3 ?_
    by_cases e4 : (n == n') = true
    case neg =>
      rw [Bool.not_eq_true] at e4
      repeat refine brP_false e4 ?_
      exact fin1 (dbool (by rw [e1, e2, e3, e4]; rfl))
    repeat refine brP_true e4 ?_
    refine PFun.call (eqfEx_c _ Ex.same kids kids' (fun x hx y hy => ih x hx (k' y hy)) h) ?_
    exact fin1 (dbool (by rw [e1, e2, e3, e4]; rfl))
theorem sameStmt_c {a : St} (ha : a.Fit) : ∀ {b : St}, b.Fit → PFun Try.prog 113 [a.v, b.v] [] (.d (.bool (a.same b))) [] := by
  induction ha with
  | @mk kind mon name n e blocks pl he h hb k ih =>
    intro b hb'
    cases hb' with
    | @mk kind' mon' name' n' e' blocks' pl' he' h' hb2 k' =>
    rw [St.same_eq]
    have stmts : ∀ x ∈ blocks, ∀ y ∈ blocks', PFun Try.prog 75 [.d (.sl (x.map St.c)), .d (.sl (y.map St.c))] [] (.d (.bool (eqL St.same x y))) [] := fun x hx y hy => by
      refine fn_sem pok 8 0 Try.func75 (by kernel_rfl) rfl rfl rfl rfl ?_
      refine SWp.go pok (by kernel_rfl) ?_
      refine PFun.call (eqfSt_c _ St.same x y (fun u hu v hv => ih x hx u hu (k' y hy v hv)) (hb x hx)) ?_
      exact fin1 rfl
    refine fn_sem pok 45 0 Try.func113 (by kernel_rfl) rfl rfl rfl rfl ?_
    refine SWp.go pok (by kernel_rfl) ?_
    dsimp only
    by_cases e1 : (kind == kind') = true
    case neg =>
      rw [Bool.not_eq_true] at e1
      repeat refine brP_false e1 ?_
      exact fin1 (dbool (by rw [e1]; rfl))
    repeat refine brP_true e1 ?_
    by_cases e2 : (mon == mon') = true
    case neg =>
      rw [Bool.not_eq_true] at e2
      repeat refine brP_false e2 ?_
      exact fin1 (dbool (by rw [e1, e2]; rfl))
    repeat refine brP_true e2 ?_
    by_cases e3 : (name == name') = true
    case neg =>
      rw [Bool.not_eq_true] at e3
      repeat refine brP_false e3 ?_
      exact fin1 (dbool (by rw [e1, e2, e3]; rfl))
    repeat refine brP_true e3 ?_
    by_cases e4 : (n == n') = true
    case neg =>
      rw [Bool.not_eq_true] at e4
      repeat refine brP_false e4 ?_
      exact fin1 (dbool (by rw [e1, e2, e3, e4]; rfl))
    repeat refine brP_true e4 ?_
    refine PFun.call (sameExpr_c he he') ?_
    by_cases e5 : e.same e' = true
    case neg =>
      rw [Bool.not_eq_true] at e5
      repeat refine brP_false e5 ?_
      exact fin1 (dbool (by rw [e1, e2, e3, e4, e5]; rfl))
    repeat refine brP_true e5 ?_
    refine PFun.call (eqfBl_c _ (eqL St.same) blocks blocks' stmts h) ?_
    repeat refine brP_true e5 ?_
    exact fin1 (dbool (by rw [e1, e2, e3, e4, e5]; rfl))
theorem sameStmts_c {x y : List St} (hx : Bd x) (hy : Bd y) : PFun Try.prog 75 [.d (.sl (x.map St.c)), .d (.sl (y.map St.c))] [] (.d (.bool (eqL St.same x y))) [] := by
  refine fn_sem pok 8 0 Try.func75 (by kernel_rfl) rfl rfl rfl rfl ?_
  refine SWp.go pok (by kernel_rfl) ?_
  refine PFun.call (eqfSt_c _ St.same x y (fun u hu v hv => sameStmt_c (hx.fit u hu) (hy.fit v hv)) hx.len) ?_
  exact fin1 rfl
theorem sameVar_c (a b : Vr) : PFun Try.prog 72 [a.v, b.v] [] (.d (.bool (a.same b))) [] := by
  refine fn_sem pok 10 0 Try.func72 (by kernel_rfl) rfl rfl rfl rfl ?_
  refine SWp.go pok (by kernel_rfl) ?_
  have e0 : ∀ q : Bool, (a.name == b.name && (a.type == b.type && (a.lo == b.lo && (a.hi == b.hi && (a.init == b.init && ((0 : Int) == 0 && true)))))) = q → q = a.same b := fun q h => by
    rw [← h]; simp [Vr.same, Bool.and_assoc]
  refine brP_split (fun h => ?_) (fun h => ?_)
  · exact fin1 (dbool (e0 _ h))
  · exact fin1 (dbool (e0 _ h))
theorem sameMethod_c (a b : Mt) (ha : Bd a.body) (hb : Bd b.body) : PFun Try.prog 74 [a.v, b.v] [] (.d (.bool (a.same b))) [] := by
  unfold Mt.same
  refine fn_sem pok 17 0 Try.func74 (by kernel_rfl) rfl rfl rfl rfl ?_
  refine SWp.go pok (by kernel_rfl) ?_
  by_cases e1 : (a.name == b.name) = true
  case neg =>
    rw [Bool.not_eq_true] at e1
    repeat refine brP_false e1 ?_
    exact fin1 (dbool (by rw [e1]; rfl))
  repeat refine brP_true e1 ?_
  refine PFun.call (sameStmts_c ha hb) ?_
  exact fin1 (dbool (by rw [e1]; rfl))
theorem sameRole_c (a b : Ro) (ha : Bd a.body) (hb : Bd b.body) : PFun Try.prog 42 [a.v, b.v] [] (.d (.bool (a.same b))) [] := by
  unfold Ro.same
  refine fn_sem pok 31 0 Try.func42 (by kernel_rfl) rfl rfl rfl rfl ?_
  refine SWp.go pok (by kernel_rfl) ?_
  by_cases e1 : (a.name == b.name) = true
  case neg =>
    rw [Bool.not_eq_true] at e1
    repeat refine brP_false e1 ?_
    exact fin1 (dbool (by rw [e1]; rfl))
  repeat refine brP_true e1 ?_
  by_cases e2 : (a.star == b.star) = true
  case neg =>
    rw [Bool.not_eq_true] at e2
    repeat refine brP_false e2 ?_
    exact fin1 (dbool (by rw [e1, e2]; rfl))
  repeat refine brP_true e2 ?_
  by_cases e3 : (a.count == b.count) = true
  case neg =>
    rw [Bool.not_eq_true] at e3
    repeat refine brP_false e3 ?_
    exact fin1 (dbool (by rw [e1, e2, e3]; rfl))
  repeat refine brP_true e3 ?_
  refine PFun.call (sameStmts_c ha hb) ?_
  exact fin1 (dbool (by rw [e1, e2, e3]; rfl))
theorem sameMonitor_c (a b : Mo) (hv : a.vars.length < big) (hm : a.methods.length < big) (ha : ∀ f ∈ a.methods, Bd f.body) (hb : ∀ f ∈ b.methods, Bd f.body) : PFun Try.prog 40 [a.v, b.v] [] (.d (.bool (a.same b))) [] := by
  unfold Mo.same
  refine fn_sem pok 24 0 Try.func40 (by kernel_rfl) rfl rfl rfl rfl ?_
  refine SWp.go pok (by kernel_rfl) ?_
  by_cases e1 : (a.name == b.name) = true
  case neg =>
    rw [Bool.not_eq_true] at e1
    repeat refine brP_false e1 ?_
    exact fin1 (dbool (by rw [e1]; rfl))
  repeat refine brP_true e1 ?_
  refine PFun.call (eqfVr_c _ Vr.same a.vars b.vars (fun x _ y _ => sameVar_c x y) hv) ?_
  by_cases e2 : eqL Vr.same a.vars b.vars = true
  case neg =>
    rw [Bool.not_eq_true] at e2
    repeat refine brP_false e2 ?_
    exact fin1 (dbool (by rw [e1, e2]; rfl))
  repeat refine brP_true e2 ?_
  refine PFun.call (eqfMt_c _ Mt.same a.methods b.methods (fun x hx y hy => sameMethod_c x y (ha x hx) (hb y hy)) hm) ?_
  repeat refine brP_true e2 ?_
  exact fin1 (dbool (by rw [e1, e2]; rfl))
theorem same_c (p q : Pg) (hp : p.Fit) (hq : q.Fit) : PFun Try.prog 20 [p.v, q.v] [] (.d (.bool (p.same q))) [] := by
  unfold Pg.same
  refine fn_sem pok 17 0 Try.func20 (by kernel_rfl) rfl rfl rfl rfl ?_
  refine SWp.go pok (by kernel_rfl) ?_
  refine PFun.call (eqfMo_c _ Mo.same p.mons q.mons (fun x hx y hy => sameMonitor_c x y (hp.vars x hx) (hp.meths x hx) (hp.body x hx) (hq.body y hy)) hp.mons) ?_
  by_cases e1 : eqL Mo.same p.mons q.mons = true
  case neg =>
    rw [Bool.not_eq_true] at e1
    repeat refine brP_false e1 ?_
    exact fin1 (dbool (by rw [e1]; rfl))
  repeat refine brP_true e1 ?_
  refine PFun.call (eqfRo_c _ Ro.same p.roles q.roles (fun x hx y hy => sameRole_c x y (hp.rbody x hx) (hq.rbody y hy)) hp.roles) ?_
  repeat refine brP_true e1 ?_
  exact fin1 (dbool (by rw [e1]; rfl))
end Go.Proofs.Ytmflfcbebeikcaa.Q

namespace Go.Proofs.Ytmflfcbebeikcaa.Q
open Go.RowKit
variable [Amb]
def jr : List Tk → Str
  | [] => []
  | x :: r => 32 :: (x.text ++ jr r)
def jf : List Tk → Str
  | [] => []
  | x :: r => x.text ++ jr r
theorem jr_app : ∀ a b : List Tk, jr (a ++ b) = jr a ++ jr b
  | [], b => rfl
  | x :: a, b => by rw [List.cons_append, jr, jr, jr_app a b]; simp
theorem jf_app {a b : List Tk} (h : a ≠ []) : jf (a ++ b) = jf a ++ jr b := by
  cases a with
  | nil => exact absurd rfl h
  | cons x a => rw [List.cons_append, jf, jf, jr_app]; simp
theorem jf_take {l : List Tk} {k : Nat} (h : k < l.length) (h0 : 0 < k) : jf (l.take (k + 1)) = jf (l.take k) ++ [32] ++ l[k].text := by
  rw [List.take_succ_eq_append_getElem h, jf_app (by intro e; rw [List.take_eq_nil_iff] at e; rcases e with rfl | rfl; exact absurd h0 (by decide); simp at h)]
  simp [jr]
theorem jf_take0 {l : List Tk} (h : 0 < l.length) : jf (l.take 1) = l[0].text := by
  cases l with
  | nil => simp at h
  | cons x l => simp [jf, jr]
theorem jf_le (l : List Tk) (k : Nat) : (jf (l.take k)).length ≤ (jf l).length := by
  by_cases h : l.take k = []
  · rw [h]; exact Nat.zero_le _
  · have e : jf l = jf (l.take k) ++ jr (l.drop k) := by rw [← jf_app h, List.take_append_drop]
    rw [e, List.length_append]; omega
theorem join_c (l : List Tk) (hb : (jf l).length ≤ 1000000) (hl : l.length ≤ 1000000) : PFun Try.prog 19 [.d (.sl (l.map Tk.c))] [] (sv' (jf l)) [] := by
  have hT : heads 90 0 := by unfold heads; kernel_rfl
  refine fn_sem pok 21 0 Try.func19 (by kernel_rfl) rfl rfl rfl rfl ?_
  refine SWp.go pok (by kernel_rfl) ?_
  refine SWp.loop (fun x : Bool × Nat => x.2 ≤ l.length ∧ (x.2 = 0 → x.1 = false)) (fun x => ([(3, .ptr 0 0), (6, .d (.sl (l.map Tk.c))), (7, iv l.length), (8, iv x.2)], [.bld 90 5 x.1 (jf (l.take x.2)) []])) (fun x => l.length - x.2) (false, 0) ⟨Nat.zero_le _, fun _ => rfl⟩ (Le.same ⟨rfl, rfl, sint (by rw [List.length_map]), rfl, trivial⟩) (fun x hx => ?_)
  obtain ⟨u, k⟩ := x
  obtain ⟨hk, hu⟩ := hx
  dsimp only at hk hu
  refine SWp.go pok (by kernel_rfl) ?_
  refine brP_split (fun h => ?_) (fun h => ?_)
  · have hlt : k < l.length := by simpa using h
    refine PIdx.map (get_at hlt) ?_
    have hle := jf_le l (k + 1)
    refine brP_split (fun h0 => ?_) (fun h0 => ?_)
    · have h0 : 0 < k := by simpa using h0
      have e := jf_take hlt h0
      rw [e] at hle
      simp only [List.length_append, List.length_singleton] at hle
      have c1 := wrByte_c 90 u (jf (l.take k)) [] 32 hT (by omega)
      have c2 := wrStr_c 90 true (jf (l.take k) ++ [32]) [] l[k].text hT (by simp only [List.length_append, List.length_singleton]; omega)
      rw [← e] at c2
      refine PFun.call c1 ?_
      refine PFun.call c2 ?_
      exact ⟨(true, k + 1), ⟨hlt, fun e => absurd e (by simp)⟩, by show l.length - (k + 1) < l.length - k; omega, .inr ⟨[0], ⟨rfl, rfl⟩, rfl, rfl, rfl, rfl, sint (wrap_nat k (by omega)), trivial⟩⟩
    · have h0 : k = 0 := by simp at h0; omega
      subst h0
      have e := jf_take0 hlt
      rw [Nat.zero_add] at hle
      rw [e] at hle
      have c2 : PFun Try.prog 37 [.ptr 0 0, sv' l[0].text] [.bld 90 5 u [] []] (.tup [iv l[0].text.length, .d (.raw .nilIface)]) [.bld 90 5 true (jf (l.take 1)) []] := by
        rw [e]; exact wrStr_c 90 u [] [] l[0].text hT (by simp; omega)
      refine PFun.call c2 ?_
      exact ⟨(true, 1), ⟨hlt, fun e => absurd e (by simp)⟩, by show l.length - 1 < l.length - 0; omega, .inr ⟨[0], ⟨rfl, rfl⟩, rfl, rfl, rfl, rfl, rfl, trivial⟩⟩
  · have hge : k = l.length := by simp at h; omega
    subst hge
    have c := string_c 90 u (jf (l.take l.length)) []
    rw [List.take_length] at c
    rw [List.take_length]
    refine PFun.call c ?_
    exact fin1 rfl
end Go.Proofs.Ytmflfcbebeikcaa.Q

namespace Go.Proofs.Ytmflfcbebeikcaa.Q
open Go.RowKit
variable [Amb]
theorem fit0 {op : Int} {mon name : Str} {n pl : Int} : Ex.Fit ⟨op, mon, name, n, [], pl⟩ := .mk (by decide) (by simp)
theorem fit1 {op : Int} {mon name : Str} {n pl : Int} {x : Ex} (h : x.Fit) : Ex.Fit ⟨op, mon, name, n, [x], pl⟩ := .mk (by show 1 < big; decide) (fun y hy => by simp at hy; rw [hy]; exact h)
theorem fit2 {op : Int} {mon name : Str} {n pl : Int} {x z : Ex} (h : x.Fit) (g : z.Fit) : Ex.Fit ⟨op, mon, name, n, [x, z], pl⟩ := .mk (by show 2 < big; decide) (fun y hy => by simp at hy; rcases hy with rfl | rfl; exact h; exact g)
theorem exprF_fit (f : Nat) : (∀ lv r, (binF f lv r).1.Fit) ∧ (∀ lv e r, e.Fit → (loopF f lv e r).1.Fit) ∧ (∀ r, (termF f r).1.Fit) := by
  induction f with
  | zero => exact ⟨fun lv r => by rw [binF]; exact fit0, fun lv e r h => by rw [loopF]; exact h, fun r => by rw [termF]; exact fit0⟩
  | succ f ih =>
    obtain ⟨i1, i2, i3⟩ := ih
    refine ⟨fun lv r => ?_, fun lv e r h => ?_, fun r => ?_⟩
    · rw [binF]
      split
      · exact i3 r
      split
      · exact fit1 (i1 _ _)
      · exact i2 _ _ _ (i1 _ _)
    · rw [loopF]
      split
      · split
        · exact fit2 h (i1 _ _)
        · exact i2 _ _ _ (fit2 h (i1 _ _))
      · exact h
    · rw [termF]
      split
      · split
        · exact fit1 (i3 _)
        · exact fit0
      split
      · exact fit0
      split
      · exact fit1 (i3 _)
      split
      · exact i1 _ _
      split
      · exact fit0
      split
      · exact fit0
      · exact fit0
theorem expr_fit (r : Rd) : r.expr.1.Fit := (exprF_fit _).1 0 r
theorem ex0_fit : ex0.Fit := fit0
theorem stf {kind : Int} {mon name : Str} {n : Int} {e : Ex} {pl : Int} {blocks : List (List St)} (he : e.Fit) (h : blocks.length < big) (hb : ∀ b ∈ blocks, Bd b) : St.Fit ⟨kind, mon, name, n, e, blocks, pl⟩ := .mk he h (fun b hb' => (hb b hb').len) (fun b hb' => (hb b hb').fit)
theorem st_leaf {kind : Int} {mon name : Str} {n : Int} {e : Ex} {pl : Int} (he : e.Fit) : St.Fit ⟨kind, mon, name, n, e, [], pl⟩ := stf he (by decide) (by simp)
theorem simple_fit (r : Rd) (k pl : Int) : (r.simple k pl).1.Fit := by
  unfold Rd.simple
  split
  · exact st_leaf ex0_fit
  split
  · exact st_leaf ex0_fit
  split
  · exact st_leaf ex0_fit
  · exact st_leaf ex0_fit
theorem set_fit (r : Rd) : r.set_.1.Fit := st_leaf (expr_fit _)
theorem head_fit (r : Rd) (k : Int) : (r.head k).1.2.Fit := by
  unfold Rd.head
  split
  · exact expr_fit _
  split
  · exact ex0_fit
  · exact ex0_fit
theorem bd_nil : Bd [] := ⟨by decide, by simp⟩
theorem stmtF_fit (f : Nat) : f + 5 < big → (∀ r, (stmtF f r).1.Fit) ∧ (∀ k pl r, (compF f k pl r).1.Fit) ∧ (∀ l r, l.length + f < big → (∀ b ∈ l, Bd b) → (orF f l r).1.length < big ∧ ∀ b ∈ (orF f l r).1, Bd b) ∧ (∀ r, Bd (blockF f r).1) ∧ (∀ l r, l.length + f < big → (∀ y ∈ l, St.Fit y) → Bd (stmtsF f l r).1) := by
  induction f with
  | zero => exact fun _ => ⟨fun r => by rw [stmtF]; exact st_leaf ex0_fit, fun k pl r => by rw [compF]; exact st_leaf ex0_fit, fun l r h g => by rw [orF]; exact ⟨h, g⟩, fun r => by rw [blockF]; exact bd_nil, fun l r h g => by rw [stmtsF]; exact ⟨h, g⟩⟩
  | succ f ih =>
    intro hf
    obtain ⟨i1, i2, i3, i4, i5⟩ := ih (by omega)
    refine ⟨fun r => ?_, fun k pl r => ?_, fun l r h g => ?_, fun r => ?_, fun l r h g => ?_⟩
    · rw [stmtF]
      split
      · exact set_fit _
      split
      · exact st_leaf ex0_fit
      split
      · exact i2 _ _ _
      · exact simple_fit _ _ _
    · rw [compF]
      split
      · split
        · exact stf (head_fit _ _) (by show 2 < big; decide) (fun b hb => by simp at hb; rcases hb with rfl | rfl <;> exact i4 _)
        · exact stf (head_fit _ _) (by show 1 < big; decide) (fun b hb => by simp at hb; rw [hb]; exact i4 _)
      split
      · obtain ⟨h1, h2⟩ := i3 [(blockF f (r.head k).2).1] (blockF f (r.head k).2).2 (by show 1 + f < big; omega) (fun b hb => by simp at hb; rw [hb]; exact i4 _)
        exact stf (head_fit _ _) h1 h2
      · exact stf (head_fit _ _) (by show 1 < big; decide) (fun b hb => by simp at hb; rw [hb]; exact i4 _)
    · rw [orF]
      split
      · refine i3 _ _ (by rw [List.length_append, List.length_singleton]; omega) (fun b hb => ?_)
        rcases List.mem_append.1 hb with h1 | h1
        · exact g b h1
        · rw [List.mem_singleton.1 h1]; exact i4 _
      · exact ⟨by show l.length < big; omega, g⟩
    · rw [blockF]
      split
      · exact i5 [] _ (by show 0 + f < big; omega) (by simp)
      · exact bd_nil
    · rw [stmtsF]
      split
      · refine i5 _ _ (by rw [List.length_append, List.length_singleton]; omega) (fun b hb => ?_)
        rcases List.mem_append.1 hb with h1 | h1
        · exact g b h1
        · rw [List.mem_singleton.1 h1]; exact i1 _
      · exact ⟨by show l.length < big; omega, g⟩
/-- Not more tokens than a text has. -/
def Few (r : Rd) : Prop := r.toks.length ≤ 30000
theorem few_stable : Stable Few where
  take := fun {r} h => by
    unfold Rd.take
    split
    · show r.toks.tail.length ≤ 30000
      rw [List.length_tail]; unfold Few at h; omega
    · exact h
  fail := fun {r e} h he => by
    unfold Rd.fail
    split
    · exact h
    · exact h
  more := fun {r n} h => h
  set := fun {r r'} h h' _ _ => h'
theorem few_m {r : Rd} (h : Few r) : r.m ≤ 30000 := by
  unfold Rd.m
  split
  · exact h
  · omega
theorem block_fit {r : Rd} (h : Few r) : Bd r.block.1 := (stmtF_fit (8 * r.m + 3) (by have := few_m h; show _ < 1099511627776; omega)).2.2.2.1 r
theorem varsF_len (f : Nat) : ∀ (l : List Vr) (r : Rd), (varsF f l r).1.length ≤ l.length + f := by
  induction f with
  | zero => intro l r; rw [varsF]; exact Nat.le_refl _
  | succ f ih =>
    intro l r
    rw [varsF]
    split
    · have := ih (l ++ [(r.room l.length 16).take.var.1]) (r.room l.length 16).take.var.2
      rw [List.length_append, List.length_singleton] at this
      omega
    · show l.length ≤ _; omega
theorem methsF_fit (f : Nat) : ∀ (l : List Mt) (r : Rd), Few r → (∀ x ∈ l, Bd x.body) → (methsF f l r).1.length ≤ l.length + f ∧ ∀ x ∈ (methsF f l r).1, Bd x.body := by
  induction f with
  | zero => intro l r h g; rw [methsF]; exact ⟨Nat.le_refl _, g⟩
  | succ f ih =>
    intro l r h g
    rw [methsF]
    split
    · have h1 : Few (r.room l.length 16).take := few_stable.take (few_stable.room h)
      have := ih (l ++ [(r.room l.length 16).take.meth.1]) (r.room l.length 16).take.meth.2 (few_stable.meth h1) (fun x hx => by
        rcases List.mem_append.1 hx with hx | hx
        · exact g x hx
        · rw [List.mem_singleton.1 hx]; exact block_fit (few_stable.name h1))
      rw [List.length_append, List.length_singleton] at this
      exact ⟨by omega, this.2⟩
    · exact ⟨by show l.length ≤ _; omega, g⟩
def Mo.Fit (m : Mo) : Prop := m.vars.length < big ∧ m.methods.length < big ∧ ∀ f ∈ m.methods, Bd f.body
theorem few_vars {r : Rd} (h : Few r) : Few r.vars.2 := few_stable.varsF _ _ _ h
theorem mon_fit {r : Rd} (h : Few r) : r.mon.1.Fit := by
  unfold Rd.mon
  split
  · have h1 : Few r.name.2.enter := few_stable.enter (few_stable.name h)
    have h2 := few_vars h1
    have a := varsF_len (r.name.2.enter.m + 1) [] r.name.2.enter
    have b := methsF_fit (r.name.2.enter.vars.2.m + 1) [] r.name.2.enter.vars.2 h2 (by simp)
    have m1 := few_m h1
    have m2 := few_m h2
    refine ⟨?_, ?_, b.2⟩
    · show (varsF (r.name.2.enter.m + 1) [] r.name.2.enter).1.length < 1099511627776
      simp only [List.length_nil] at a; omega
    · show (methsF (r.name.2.enter.vars.2.m + 1) [] r.name.2.enter.vars.2).1.length < 1099511627776
      have b1 := b.1
      simp only [List.length_nil] at b1; omega
  · exact ⟨by show 0 < big; decide, by show 0 < big; decide, by simp⟩
theorem progF_fit (f : Nat) : ∀ (l : List Mo) (k : List Ro) (r : Rd), Few r → (∀ x ∈ l, x.Fit) → (∀ x ∈ k, Bd x.body) → (progF f l k r).1.1.length ≤ l.length + f ∧ (progF f l k r).1.2.length ≤ k.length + f ∧ (∀ x ∈ (progF f l k r).1.1, x.Fit) ∧ ∀ x ∈ (progF f l k r).1.2, Bd x.body := by
  induction f with
  | zero => intro l k r h g1 g2; rw [progF]; exact ⟨Nat.le_refl _, Nat.le_refl _, g1, g2⟩
  | succ f ih =>
    intro l k r h g1 g2
    rw [progF]
    split
    · split
      · have h1 : Few (r.room l.length 8).take := few_stable.take (few_stable.room h)
        have := ih (l ++ [(r.room l.length 8).take.mon.1]) k (r.room l.length 8).take.mon.2 (few_stable.mon h1) (fun x hx => by
          rcases List.mem_append.1 hx with hx | hx
          · exact g1 x hx
          · rw [List.mem_singleton.1 hx]; exact mon_fit h1) g2
        rw [List.length_append, List.length_singleton] at this
        exact ⟨by omega, by omega, this.2.2⟩
      split
      · have h1 : Few (r.room k.length 8).take := few_stable.take (few_stable.room h)
        have := ih l (k ++ [(r.room k.length 8).take.role.1]) (r.room k.length 8).take.role.2 (few_stable.role h1) g1 (fun x hx => by
          rcases List.mem_append.1 hx with hx | hx
          · exact g2 x hx
          · rw [List.mem_singleton.1 hx]; exact block_fit (few_stable.cnt (few_stable.name h1)))
        rw [List.length_append, List.length_singleton] at this
        exact ⟨by omega, by omega, this.2.2⟩
      · have := ih l k (r.fail 40) (few_stable.fail h (by decide)) g1 g2
        exact ⟨by omega, by omega, this.2.2⟩
    · exact ⟨by show l.length ≤ _; omega, by show k.length ≤ _; omega, g1, g2⟩
theorem prog_fit {r : Rd} (h : Few r) : Pg.Fit ⟨r.prog.1.1, r.prog.1.2⟩ := by
  obtain ⟨a, b, c, d⟩ := progF_fit (r.m + 1) [] [] r h (by simp) (by simp)
  have m1 := few_m h
  simp only [List.length_nil] at a b
  exact ⟨by show (progF (r.m + 1) [] [] r).1.1.length < 1099511627776; omega, by show (progF (r.m + 1) [] [] r).1.2.length < 1099511627776; omega, fun m hm => (c m hm).1, fun m hm => (c m hm).2.1, fun m hm => (c m hm).2.2, d⟩
/-! ### the same but for places -/
variable {σ : Int → Int}
mutual
theorem Ex.same_ren : ∀ e : Ex, e.same (e.ren σ) = true
  | ⟨op, mon, name, n, kids, pl⟩ => by rw [Ex.ren, Ex.same, Ex.sames_ren kids]; simp
theorem Ex.sames_ren : ∀ l : List Ex, Ex.sames l (Ex.rens σ l) = true
  | [] => by rw [Ex.rens, Ex.sames]
  | a :: l => by rw [Ex.rens, Ex.sames, Ex.same_ren a, Ex.sames_ren l]; rfl
end
mutual
theorem St.same_ren : ∀ e : St, e.same (e.ren σ) = true
  | ⟨kind, mon, name, n, e, blocks, pl⟩ => by rw [St.ren, St.same, Ex.same_ren e, St.sameB_ren blocks]; simp
theorem St.sameL_ren : ∀ l : List St, St.sameL l (St.renL σ l) = true
  | [] => by rw [St.renL, St.sameL]
  | a :: l => by rw [St.renL, St.sameL, St.same_ren a, St.sameL_ren l]; rfl
theorem St.sameB_ren : ∀ l : List (List St), St.sameB l (St.renB σ l) = true
  | [] => by rw [St.renB, St.sameB]
  | a :: l => by rw [St.renB, St.sameB, St.sameL_ren a, St.sameB_ren l]; rfl
end
theorem eqL_map {α : Type} {p : α → α → Bool} {f : α → α} : ∀ {l : List α}, (∀ x ∈ l, p x (f x) = true) → eqL p l (l.map f) = true
  | [], _ => rfl
  | a :: l, h => by rw [List.map_cons, eqL, h a (by simp), eqL_map (fun x hx => h x (by simp [hx]))]; rfl
theorem body_ren (l : List St) : eqL St.same l (l.map (St.ren σ)) = true := eqL_map fun x _ => St.same_ren x
theorem Pg.same_ren (l : List Mo) (k : List Ro) : Pg.same ⟨l, k⟩ ⟨l.map (Mo.ren σ), k.map (Ro.ren σ)⟩ = true := by
  unfold Pg.same
  rw [Bool.and_eq_true]
  constructor
  · refine eqL_map fun m _ => ?_
    unfold Mo.same Mo.ren
    simp only [beq_self_eq_true, Bool.true_and, Bool.and_eq_true]
    refine ⟨eqL_map fun v _ => by simp [Vr.same, Vr.ren], eqL_map fun f _ => ?_⟩
    unfold Mt.same Mt.ren
    simp only [beq_self_eq_true, Bool.true_and]
    exact body_ren _
  · refine eqL_map fun r _ => ?_
    unfold Ro.same Ro.ren
    simp only [beq_self_eq_true, Bool.true_and]
    exact body_ren _
end Go.Proofs.Ytmflfcbebeikcaa.Q

namespace Go.Proofs.Ytmflfcbebeikcaa.Q
open Go.RowKit
variable [Amb]
theorem stepT_le {w : Str} {n : Nat} {o : Option (Int × Int)} (hw : w ≠ []) (h : stepT w = (0, n, o)) : 0 < n ∧ n ≤ w.length := by
  have hpos : 0 < w.length := List.length_pos_iff.2 hw
  have h1 := nextS_T w 0 []
  rw [List.drop_zero, h] at h1
  have h2 := next_ok (s := w) (a := 0) (l := []) hpos (by rw [h1]; rfl)
  rw [h1] at h2
  dsimp only [putT] at h2
  omega
/-- Tokens with a blank behind each. -/
def flat : List Tk → Str
  | [] => []
  | x :: r => x.text ++ 32 :: flat r
def rp : Nat → List Tk → List Tk
  | _, [] => []
  | b, x :: r => ⟨x.kind, x.text, x.n, b⟩ :: rp (b + x.text.length + 1) r
theorem jr_end {e : Tk} (he : e.text = []) : ∀ ts : List Tk, jr (ts ++ [e]) = 32 :: flat ts
  | [] => by simp [jr, he, flat]
  | x :: r => by rw [List.cons_append, jr, jr_end he r]; rfl
theorem jf_end {e : Tk} (he : e.text = []) : ∀ ts : List Tk, jf (ts ++ [e]) = flat ts
  | [] => by simp [jf, jr, he, flat]
  | x :: r => by rw [List.cons_append, jf, jr_end he r]; rfl
theorem fol32 (k : Int) (x rest : Str) : fol k x (32 :: rest) := by
  intro b hb
  have hb : b = 32 := by simpa using hb.symm
  subst hb
  refine ⟨fun _ => by decide, fun _ => by decide, fun _ hx => ?_⟩
  obtain ⟨c, rfl⟩ := List.length_eq_one_iff.1 hx
  simp [twos]
theorem Lx.flat : ∀ (ts : List Tk) (b : Nat), (∀ x ∈ ts, isTok x.kind x.text x.n) → Lx (Q.flat ts) b (rp b ts)
  | [], b, _ => .nil b
  | x :: r, b, h => .put (h x (by simp)) (fol32 _ _ _) (.blank (by decide) (Lx.flat r _ fun y hy => h y (by simp [hy])))
theorem Lx.toks {w : Str} {a : Nat} {ts : List Tk} (h : Lx w a ts) : (∀ x ∈ ts, isTok x.kind x.text x.n) ∧ (Q.flat ts).length ≤ 2 * w.length ∧ ts.length ≤ w.length ∧ (∀ x ∈ ts, (a : Int) ≤ x.pl ∧ x.pl < a + w.length) ∧ (ts.map Tk.pl).Pairwise (· < ·) := by
  induction h with
  | nil a => exact ⟨by simp, by simp [Q.flat], by simp, by simp, by simp⟩
  | @skip w a n ts hw h k ih =>
    obtain ⟨i1, i2, i3, i4, i5⟩ := ih
    obtain ⟨h1, h2⟩ := stepT_le hw h
    rw [List.length_drop] at i2 i3 i4
    exact ⟨i1, by omega, by omega, fun x hx => by have := i4 x hx; omega, i5⟩
  | @tok w a n k v ts hw h g ih =>
    obtain ⟨i1, i2, i3, i4, i5⟩ := ih
    obtain ⟨h1, h2⟩ := stepT_le hw h
    obtain ⟨t1, t2⟩ := tok_self hw h
    rw [List.length_drop] at i2 i3 i4
    refine ⟨fun x hx => ?_, ?_, ?_, fun x hx => ?_, ?_⟩
    · rcases List.mem_cons.1 hx with rfl | hx
      · exact t1
      · exact i1 x hx
    · rw [Q.flat, List.length_append, List.length_cons]
      show (w.take n).length + _ ≤ _
      omega
    · rw [List.length_cons]; omega
    · rcases List.mem_cons.1 hx with rfl | hx
      · show (a : Int) ≤ (a : Int) ∧ (a : Int) < _; omega
      · have := i4 x hx; omega
    · rw [List.map_cons, List.pairwise_cons]
      refine ⟨fun z hm => ?_, i5⟩
      obtain ⟨x, hx, e⟩ := List.mem_map.1 hm
      have := i4 x hx
      subst e
      show (a : Int) < x.pl
      omega
theorem exists_map : ∀ (xs ys : List Int), xs.Nodup → xs.length = ys.length → ∃ σ : Int → Int, xs.map σ = ys
  | [], [], _, _ => ⟨id, rfl⟩
  | x :: xs, y :: ys, h, hl => by
    obtain ⟨h1, h2⟩ := List.nodup_cons.1 h
    obtain ⟨σ, hσ⟩ := exists_map xs ys h2 (by simpa using hl)
    refine ⟨fun z => if z = x then y else σ z, ?_⟩
    rw [List.map_cons, ← hσ]
    congr 1
    · simp
    · refine List.map_congr_left fun z hz => ?_
      have : z ≠ x := fun e => h1 (e ▸ hz)
      simp [this]
/-- A token without its place. -/
def core (t : Tk) : Int × Str × Int := (t.kind, t.text, t.n)
theorem map_ren {σ : Int → Int} : ∀ {l m : List Tk}, l.map core = m.map core → (l.map Tk.pl).map σ = m.map Tk.pl → m = l.map (Tk.ren σ)
  | [], [], _, _ => rfl
  | [], b :: m, h, _ => by simp at h
  | a :: l, [], h, _ => by simp at h
  | a :: l, b :: m, h, g => by
    simp only [List.map_cons, List.cons.injEq] at h g
    rw [List.map_cons, map_ren h.2 g.2]
    congr 1
    obtain ⟨k, x, n, p⟩ := b
    have h1 := h.1
    simp only [core, Prod.mk.injEq] at h1
    have g1 : σ a.pl = p := g.1
    unfold Tk.ren
    rw [h1.1, h1.2.1, h1.2.2, g1]
theorem rp_core : ∀ (ts : List Tk) (b : Nat), (rp b ts).map core = ts.map core
  | [], b => rfl
  | x :: r, b => by rw [rp, List.map_cons, List.map_cons, rp_core r]; rfl
theorem rp_len : ∀ (ts : List Tk) (b : Nat), (rp b ts).length = ts.length
  | [], b => rfl
  | x :: r, b => by rw [rp, List.length_cons, List.length_cons, rp_len r]
/-- The text of joined tokens: how it is scanned. -/
theorem rescan {s : Str} (h : (scanS s).2.1 = 0) (hs : s.length ≤ 4000) :
    (jf (scanS s).1).length ≤ 20000 ∧ (scanS s).1.length ≤ 20001 ∧ (scanS (jf (scanS s).1)).2.1 = 0 ∧ ((scanS s).1.map Tk.pl).Nodup ∧ ∃ σ : Int → Int, σ 0 = 0 ∧ (scanS (jf (scanS s).1)).1 = (scanS s).1.map (Tk.ren σ) := by
  obtain ⟨_, ts, h1, h2⟩ := scanS_Lx h
  obtain ⟨i1, i2, i3, i4, i5⟩ := h1.toks
  rw [h2]
  dsimp only
  rw [jf_end (e := endT s) rfl]
  have hlen : (flat ts).length ≤ 20000 := by omega
  have hg := (Lx.flat ts 0 i1).all hlen
  rw [hg]
  dsimp only
  have pw : ((ts ++ [endT s]).map Tk.pl).Pairwise (· < ·) := by
    rw [List.map_append, List.pairwise_append]
    refine ⟨i5, by simp, fun x hx y hy => ?_⟩
    obtain ⟨t, ht, rfl⟩ := List.mem_map.1 hx
    have hy : y = (s.length : Int) := by simpa [endT] using hy
    have := i4 t ht
    omega
  have nd : ((ts ++ [endT s]).map Tk.pl).Nodup := pw.imp fun h => Int.ne_of_lt h
  refine ⟨hlen, by rw [List.length_append, List.length_singleton]; omega, rfl, nd, ?_⟩
  have hcore : (ts ++ [endT s]).map core = (rp 0 ts ++ [endT (flat ts)]).map core := by
    rw [List.map_append, List.map_append, rp_core]; rfl
  have hl : ((ts ++ [endT s]).map Tk.pl).length = ((rp 0 ts ++ [endT (flat ts)]).map Tk.pl).length := by
    simp only [List.length_map, List.length_append, rp_len, List.length_singleton]
  by_cases h0 : (0 : Int) ∈ (ts ++ [endT s]).map Tk.pl
  · obtain ⟨σ, hσ⟩ := exists_map _ _ nd hl
    refine ⟨σ, ?_, map_ren hcore hσ⟩
    cases ts with
    | nil =>
      have e : σ (s.length : Int) = ((flat []).length : Int) := by simpa [rp, endT] using hσ
      have e0 : (0 : Int) = s.length := by simpa [endT] using h0
      rw [← e0] at e
      exact e
    | cons x r =>
      have e : σ x.pl = 0 := by
        have := congrArg List.head? hσ
        simpa [rp] using this
      have e0 : x.pl = 0 := by
        rw [List.cons_append, List.map_cons] at h0 pw
        rcases List.mem_cons.1 h0 with h0 | h0
        · exact h0.symm
        · have k1 := (List.pairwise_cons.1 pw).1 0 h0
          have k2 := (i4 x (by simp)).1
          omega
      rw [e0] at e
      exact e
  · obtain ⟨σ, hσ⟩ := exists_map (0 :: (ts ++ [endT s]).map Tk.pl) (0 :: (rp 0 ts ++ [endT (flat ts)]).map Tk.pl) (List.nodup_cons.2 ⟨h0, nd⟩) (by rw [List.length_cons, List.length_cons, hl])
    rw [List.map_cons, List.cons.injEq] at hσ
    exact ⟨σ, hσ.1, map_ren hcore hσ.2⟩
end Go.Proofs.Ytmflfcbebeikcaa.Q

namespace Go.Proofs.Ytmflfcbebeikcaa.Q
open Go.RowKit
variable [Amb]
theorem parse_nil_fit : Pg.Fit ⟨[], []⟩ := ⟨by show 0 < big; decide, by show 0 < big; decide, by simp, by simp, by simp, by simp⟩
structure Again (l m : List Tk) (p q : Pg × Int × Int) (σ : Int → Int) : Prop where
  toks : m = l.map (Tk.ren σ)
  code : q.2.1 = p.2.1
  same : p.1.same q.1 = true
  fp : p.1.Fit
  fq : q.1.Fit
  place : p.2.1 ≠ 0 → (∃ t ∈ l, p.2.2 = t.pl) ∧ q.2.2 = σ p.2.2
theorem reparse {s : Str} (h : (scanS s).2.1 = 0) (hs : s.length ≤ 4000) : ∃ σ, Again (scanS s).1 (scanS (jf (scanS s).1)).1 (parseS s) (parseS (jf (scanS s).1)) σ := by
  obtain ⟨h1, h2, h3, _, σ, h0, hm⟩ := rescan h hs
  have hok := scanS_ok h
  refine ⟨σ, ?_⟩
  have e : (Rd.mk 0 0 (scanS (jf (scanS s).1)).1 0) = (Rd.mk 0 0 (scanS s).1 0).ren σ := by
    unfold Rd.ren; rw [hm, h0]
  unfold parseS
  rw [if_pos h, if_pos h3, e, ren_prog h0]
  have few : Few (Rd.mk 0 0 (scanS s).1 0) := by show (scanS s).1.length ≤ 30000; omega
  have few' : Few ((Rd.mk 0 0 (scanS s).1 0).ren σ) := by show ((scanS s).1.map (Tk.ren σ)).length ≤ 30000; rw [List.length_map]; omega
  have f1 := prog_fit few
  have f2 := prog_fit few'
  rw [ren_prog h0] at f2
  have hne : (scanS s).1 ≠ [] := by
    obtain ⟨a, b, c, _⟩ := hok.last
    intro e
    rw [show (Rd.mk 0 0 (scanS s).1 0).toks = [] from e] at c
    simp at c
  have w := (within_stable (scanS s).1).prog (r := Rd.mk 0 0 (scanS s).1 0) ⟨hne, fun t ht => ht, fun h => absurd rfl h⟩
  generalize (Rd.mk 0 0 (scanS s).1 0).prog = r at *
  obtain ⟨⟨a, b⟩, r⟩ := r
  dsimp only at *
  by_cases hc : r.code = 0
  · rw [if_pos (show (r.ren σ).code = 0 from hc), if_pos hc]
    exact ⟨hm, rfl, Pg.same_ren a b, f1, f2, fun h => absurd rfl h⟩
  · rw [if_neg (show ¬ (r.ren σ).code = 0 from hc), if_neg hc]
    exact ⟨hm, rfl, rfl, parse_nil_fit, parse_nil_fit, fun _ => ⟨w.2.2 hc, rfl⟩⟩
theorem parseTokens_t (s : Str) (_ : s.length ≤ maxLen) : PFun Try.prog 7 [sv' s] [] (.d (.bool true)) [] := by
  refine fn_sem pok 110 0 Try.func7 (by kernel_rfl) rfl rfl rfl rfl ?_
  refine SWp.go pok (by kernel_rfl) ?_
  refine brP_split (fun h => ?_) (fun h => ?_)
  · exact PFun.call live04_c (fin1 rfl)
  have hs : s.length ≤ 4000 := by simp at h; omega
  have c1 := scan_c s (by omega)
  have c2 := parse_c s (by omega)
  have hre := fun h => rescan (s := s) h hs
  have hag := fun h => reparse (s := s) h hs
  have hbad : ¬ (scanS s).2.1 = 0 → (parseS s).2.1 = (scanS s).2.1 := fun h => by unfold parseS; rw [if_neg h]
  have cj := fun h1 h2 => join_c (scanS s).1 h1 h2
  have c3 := fun h => scan_c (jf (scanS s).1) h
  have c4 := fun h => parse_c (jf (scanS s).1) h
  generalize parseS (jf (scanS s).1) = q at *
  generalize scanS (jf (scanS s).1) = m at *
  generalize jf (scanS s).1 = w at *
  generalize parseS s = p at *
  generalize scanS s = l at *
  obtain ⟨p, f, at_⟩ := p
  obtain ⟨q, g, k⟩ := q
  obtain ⟨m, em, am⟩ := m
  obtain ⟨l, e, al⟩ := l
  dsimp only at *
  refine PFun.call c1 ?_
  refine PFun.call (num04_c _) ?_
  refine brP_split (fun h1 => ?_) (fun h1 => ?_)
  · have h1 : ¬ e = 0 := by simpa using h1
    have hf := hbad h1
    subst hf
    refine PFun.call c2 ?_
    refine PFun.call (num04_c _) ?_
    refine PFun.call (num04_c _) ?_
    refine brP_true (by simp) ?_
    refine PFun.call live04_c ?_
    exact fin1 rfl
  have h1 : e = 0 := by simpa using h1
  obtain ⟨r1, r2, r3, _, _⟩ := hre h1
  obtain ⟨σ, A⟩ := hag h1
  have hcode := A.code
  dsimp only at hcode
  subst hcode
  have hml : m.length = l.length := by rw [A.toks, List.length_map]
  refine PFun.call c2 ?_
  refine PFun.call (cj (by omega) (by omega)) ?_
  refine PFun.call (c4 (by omega)) ?_
  refine PFun.call (num04_c _) ?_
  refine PFun.call (num04_c _) ?_
  refine brP_false (by simp) ?_
  refine PFun.call (same_c p q A.fp A.fq) ?_
  have hsame : p.same q = true := A.same
  refine brP_split (fun h2 => ?_) (fun h2 => ?_)
  · rw [hsame] at h2; exact absurd h2 (by simp)
  refine PFun.call (num04_c _) ?_
  refine brP_split (fun h3 => ?_) (fun h3 => ?_)
  · exact PFun.call live04_c (fin1 rfl)
  have h3 : g ≠ 0 := by simpa using h3
  obtain ⟨⟨t, ht, e1⟩, e2⟩ := A.place h3
  have e1 : at_ = t.pl := e1
  have e2 : k = σ at_ := e2
  refine PFun.call (cj (by omega) (by omega)) ?_
  refine PFun.call (c3 (by omega)) ?_
  refine SWp.loop (fun i : Nat => i ≤ l.length ∧ ∀ j (hj : j < l.length), j < i → l[j].pl ≠ at_) (fun i => ([(3, .d (.sl (l.map Tk.c))), (11, iv at_), (14, iv k), (15, .d (.sl (m.map Tk.c))), (18, iv i)], [])) (fun i => l.length - i) 0 ⟨Nat.zero_le _, fun j _ h => absurd h (Nat.not_lt_zero _)⟩ (.inr ⟨[], ⟨rfl, rfl⟩, rfl, rfl, rfl, rfl, rfl, rfl, trivial⟩) (fun i hi => ?_)
  obtain ⟨hi, hno⟩ := hi
  have hlt : i < l.length := by
    rcases Nat.lt_or_ge i l.length with h | h
    · exact h
    · obtain ⟨j, hj, e⟩ := List.mem_iff_getElem.1 ht
      exact absurd (e1.trans (by rw [e])).symm (hno j hj (by omega))
  have hlt' : i < m.length := by omega
  have hpl : m[i].pl = σ l[i].pl := by
    have := A.toks
    subst this
    rw [List.getElem_map]; rfl
  refine SWp.go pok (by kernel_rfl) ?_
  refine brP_true (by simp; omega) ?_
  refine brP_true (by simp; omega) ?_
  refine PIdx.map (get_at hlt) ?_
  refine brP_split (fun h4 => ?_) (fun h4 => ?_)
  · have h4 : l[i].pl = at_ := by simpa using h4
    refine PIdx.map (get_at hlt') ?_
    refine brP_true (by rw [hpl, h4, ← e2]; simp) ?_
    refine PFun.call live04_c ?_
    exact fin1 rfl
  · have h4 : l[i].pl ≠ at_ := by simpa using h4
    refine ⟨i + 1, ⟨hlt, fun j hj hji => ?_⟩, by omega, Le.same ⟨rfl, rfl, rfl, rfl, sint (wrap_nat i (by omega)), trivial⟩⟩
    rcases Nat.lt_or_ge j i with h | h
    · exact hno j hj h
    · have : j = i := by omega
      subst this; exact h4
end Go.Proofs.Ytmflfcbebeikcaa.Q
