/- What is small; how programs are read; all that printing and parsing ask of a small program. No condition. -/
import Derived.Test.YtmflfcbebeikcaaGreatDoorME
import Derived.Test.YtmflfcbebeikcaaGreatDoorMI
import Derived.Test.YtmflfcbebeikcaaGreatDoorMU
set_option linter.unusedVariables false
set_option linter.unusedSectionVars false
set_option linter.unnecessarySimpa false
set_option linter.unusedSimpArgs false
set_option maxRecDepth 100000
set_option maxHeartbeats 4000000
namespace Go.Proofs.YtmflfcbebeikcaaGreatDoor.Q
open Go.RowKit
variable [Amb] [Pow]
theorem St.blocks_size {l : List St} {i k : Nat} (hi : i < l.length) (hk : k < l[i].blocks.length) : SizeOf.sizeOf l[i].blocks[k] < SizeOf.sizeOf l := by
  have h1 := List.sizeOf_lt_of_mem (List.getElem_mem hi)
  have h2 := List.sizeOf_lt_of_mem (List.getElem_mem hk)
  have h3 : SizeOf.sizeOf l[i].blocks < SizeOf.sizeOf l[i] := by
    generalize l[i] = s
    cases s
    simp
    omega
  omega
theorem cnL_app : ∀ a b : List St, St.cnL (a ++ b) = St.cnL a + St.cnL b
  | [], b => by rw [List.nil_append, St.cnL]; omega
  | y :: a, b => by rw [List.cons_append, St.cnL, St.cnL, cnL_app a b]; omega
theorem cnB_app : ∀ a b : List (List St), St.cnB (a ++ b) = St.cnB a + St.cnB b
  | [], b => by rw [List.nil_append, St.cnB]; omega
  | y :: a, b => by rw [List.cons_append, St.cnB, St.cnB, cnB_app a b]; omega
theorem cnL_take {l : List St} {k : Nat} (h : k < l.length) : St.cnL (l.take (k + 1)) = St.cnL (l.take k) + l[k].cn := by
  rw [List.take_succ_eq_append_getElem h, cnL_app, St.cnL, St.cnL]; omega
theorem cnB_take {l : List (List St)} {k : Nat} (h : k < l.length) : St.cnB (l.take (k + 1)) = St.cnB (l.take k) + St.cnL l[k] := by
  rw [List.take_succ_eq_append_getElem h, cnB_app, St.cnB, St.cnB]; omega
theorem mem_take {α : Type} {l : List α} {k : Nat} (h : k < l.length) {p : α → Prop} (h1 : ∀ y ∈ l.take k, p y) (h2 : p l[k]) : ∀ y ∈ l.take (k + 1), p y := fun y hy => by
  rw [List.take_succ_eq_append_getElem h, List.mem_append, List.mem_singleton] at hy
  rcases hy with hy | rfl
  · exact h1 y hy
  · exact h2
/-- An expression that is small. -/
def SmE (e : Ex) : Prop := e.pre.length ≤ 10000 ∧ ∀ y ∈ e.pre, y.kids.length ≤ 10000 ∧ y.mon.length ≤ 10000 ∧ y.name.length ≤ 10000
/-- A statement that is small. -/
inductive SmS : St → Prop
  | mk {kind : Int} {mon name : Str} {n : Int} {e : Ex} {blocks : List (List St)} {pl : Int} (hm : mon.length ≤ 10000) (hn : name.length ≤ 10000) (he : SmE e) (hb : blocks.length ≤ 40) (hl : ∀ b ∈ blocks, b.length ≤ 10000) (k : ∀ b ∈ blocks, ∀ y ∈ b, SmS y) : SmS ⟨kind, mon, name, n, e, blocks, pl⟩
structure SmL (l : List St) : Prop where
  len : l.length ≤ 10000
  cn : St.cnL l ≤ 10000
  all : ∀ y ∈ l, SmS y
def RestX (l : List St) (n z : Int) : Prop := 0 ≤ z → (∀ y ∈ l, SmS y) ∧ l.length ≤ 1000 ∧ z + St.cnL l ≤ n
theorem rest_c (N : Nat) : ∀ (l : List St) (n : Int), SizeOf.sizeOf l ≤ N → -1 ≤ n → n ≤ 1000 → PCalls Tryz.prog 17 [.d (.sl (l.map St.c)), iv n] [] (Left n (RestX l n)) := by
  induction N with
  | zero => intro l n h; cases l <;> simp at h
  | succ N ih =>
    intro l n hN hn0 hn1
    refine fn_sem pok 80 0 Tryz.func17 (by kernel_rfl) rfl rfl rfl rfl ?_
    refine SWp.go pok (by kernel_rfl) ?_
    refine brP_split (fun h => ?_) (fun h => ?_)
    · exact ⟨-1, rfl, rfl, by omega, by omega, fun h => by omega⟩
    have hl : (l.length : Int) ≤ n := by simp at h; omega
    refine SWp.loop (fun q : Nat × Int => q.1 ≤ l.length ∧ -1 ≤ q.2 ∧ q.2 ≤ n ∧ (0 ≤ q.2 → (∀ y ∈ l.take q.1, SmS y) ∧ q.2 + St.cnL (l.take q.1) ≤ n)) (fun q => ([(0, .d (.sl (l.map St.c))), (1, iv q.2), (5, iv q.1)], [])) (fun q => l.length - q.1) (0, n) ⟨Nat.zero_le _, hn0, Int.le_refl _, fun _ => ⟨by simp, by simp [St.cnL]⟩⟩ (Le.same ⟨rfl, rfl, rfl, trivial⟩) (fun q hq => ?_)
    obtain ⟨i, m⟩ := q
    obtain ⟨hi, hm0, hm1, hX⟩ := hq
    simp only at hi hm0 hm1 hX
    have fin : (i = l.length ∨ m < 0) → RestX l n m := fun hor h0 => by
      have : i = l.length := by omega
      subst this
      rw [List.take_length] at hX
      exact ⟨(hX h0).1, by omega, (hX h0).2⟩
    refine SWp.go pok (by kernel_rfl) ?_
    refine brP_split (fun h => ?_) (fun h => ?_)
    rotate_left
    · exact ⟨m, rfl, rfl, hm0, hm1, fin (by simp at h; omega)⟩
    have hlt : i < l.length := by simpa using h
    refine brP_split (fun h2 => ?_) (fun h2 => ?_)
    rotate_left
    · exact ⟨m, rfl, rfl, hm0, hm1, fin (by simp at h2; omega)⟩
    have h2 : 0 ≤ m := by simpa using h2
    obtain ⟨hX1, hX2⟩ := hX h2
    refine St.inRow hlt ?_
    refine brP_split (fun h => ?_) (fun h => ?_)
    · exact ⟨-1, rfl, rfl, by omega, by omega, fun h => by omega⟩
    have hmo : l[i].mon.length ≤ 200 := by simp at h; omega
    refine St.inRow hlt ?_
    refine brP_split (fun h => ?_) (fun h => ?_)
    · exact ⟨-1, rfl, rfl, by omega, by omega, fun h => by omega⟩
    have hna : l[i].name.length ≤ 200 := by simp at h; omega
    refine St.inRow hlt ?_
    refine brP_split (fun h => ?_) (fun h => ?_)
    · exact ⟨-1, rfl, rfl, by omega, by omega, fun h => by omega⟩
    have hbl : l[i].blocks.length ≤ 40 := by simp at h; omega
    refine St.inRow hlt ?_
    have hsub : IntKind.i64.wrap (m - 1) = m - 1 := wrap_in (by unfold R64; omega)
    have hc := restExpr_c _ l[i].e (m - 1) (Nat.le_refl _) (by omega) (by omega)
    rw [← hsub] at hc
    refine PCalls.mono hc ?_
    rintro r h' ⟨z, rfl, rfl, z0, z1, zX⟩
    rw [hsub] at z1 zX
    refine SWp.loop (fun q : Nat × Int => q.1 ≤ l[i].blocks.length ∧ -1 ≤ q.2 ∧ q.2 ≤ n ∧ (0 ≤ q.2 → (∀ b ∈ l[i].blocks.take q.1, b.length ≤ 1000 ∧ ∀ y ∈ b, SmS y) ∧ q.2 + St.cnB (l[i].blocks.take q.1) ≤ z)) (fun q => ([(0, .d (.sl (l.map St.c))), (1, iv q.2), (5, iv i), (6, iv q.1)], [])) (fun q => l[i].blocks.length - q.1) (0, z) ⟨Nat.zero_le _, z0, by show z ≤ n; omega, fun _ => ⟨by simp, by simp [St.cnB]⟩⟩ (Le.same ⟨rfl, rfl, rfl, rfl, trivial⟩) (fun q hq => ?_)
    obtain ⟨k, u⟩ := q
    obtain ⟨hk, hu0, hu1, hU⟩ := hq
    simp only at hk hu0 hu1 hU
    have fin2 : (k = l[i].blocks.length ∨ u < 0) → 0 ≤ u → (∀ y ∈ l.take (i + 1), SmS y) ∧ u + St.cnL (l.take (i + 1)) ≤ n := fun hor h0 => by
      have hkl : k = l[i].blocks.length := by omega
      rw [hkl, List.take_length] at hU
      obtain ⟨hU1, hU2⟩ := hU h0
      obtain ⟨hE1, hE2⟩ := zX (by omega)
      refine ⟨mem_take hlt hX1 ?_, ?_⟩
      · generalize l[i] = y at *
        obtain ⟨kind, mon, name, nn, e, blocks, pl⟩ := y
        dsimp only at *
        exact .mk (by omega) (by omega) ⟨by omega, fun y hy => by have := hE2 y hy; omega⟩ hbl (fun b hb => by have := (hU1 b hb).1; omega) (fun b hb => (hU1 b hb).2)
      · rw [cnL_take hlt]
        have hcn : l[i].cn = 1 + St.cnB l[i].blocks := by
          generalize l[i] = y
          cases y
          rw [St.cn]
        omega
    refine SWp.go pok (by kernel_rfl) ?_
    refine St.inRow hlt ?_
    refine brP_split (fun h => ?_) (fun h => ?_)
    rotate_left
    · exact ⟨(i + 1, u), ⟨hlt, hu0, hu1, fin2 (by simp at h; omega)⟩, by show l.length - (i + 1) < l.length - i; omega, Le.same ⟨rfl, rfl, sint (wrap_nat i (by omega)), trivial⟩⟩
    have hkl : k < l[i].blocks.length := by simpa using h
    refine brP_split (fun h3 => ?_) (fun h3 => ?_)
    rotate_left
    · exact ⟨(i + 1, u), ⟨hlt, hu0, hu1, fin2 (by simp at h3; omega)⟩, by show l.length - (i + 1) < l.length - i; omega, Le.same ⟨rfl, rfl, sint (wrap_nat i (by omega)), trivial⟩⟩
    have h3 : 0 ≤ u := by simpa using h3
    obtain ⟨hU1, hU2⟩ := hU h3
    refine St.inRow hlt ?_
    refine PIdx.map (get_at hkl) ?_
    have hsub : IntKind.i64.wrap (u - 1) = u - 1 := wrap_in (by unfold R64; omega)
    have hsz := St.blocks_size hlt hkl
    have hc := ih l[i].blocks[k] (u - 1) (by omega) (by omega) (by omega)
    rw [← hsub] at hc
    refine PCalls.mono hc ?_
    rintro r h' ⟨w, rfl, rfl, w0, w1, wX⟩
    rw [hsub] at w1 wX
    refine ⟨(k + 1, w), ⟨hkl, w0, by show w ≤ n; omega, fun h0 => ?_⟩, by show l[i].blocks.length - (k + 1) < l[i].blocks.length - k; omega, Le.same ⟨rfl, rfl, rfl, sint (wrap_nat k (by omega)), trivial⟩⟩
    obtain ⟨g1, g2, g3⟩ := wX h0
    refine ⟨mem_take hkl hU1 ⟨g2, g1⟩, ?_⟩
    show w + ((St.cnB (l[i].blocks.take (k + 1)) : Nat) : Int) ≤ z
    rw [cnB_take hkl]
    omega
/-! ### programs -/
structure SmMo (m : Mo) : Prop where
  name : m.name.length ≤ 200
  vlen : m.vars.length ≤ 40
  mlen : m.methods.length ≤ 40
  vars : ∀ v ∈ m.vars, v.name.length ≤ 200
  meths : ∀ f ∈ m.methods, f.name.length ≤ 200 ∧ SmL f.body
structure SmP (p : Pg) : Prop where
  mlen : p.mons.length ≤ 20
  rlen : p.roles.length ≤ 20
  mons : ∀ m ∈ p.mons, SmMo m
  roles : ∀ r ∈ p.roles, r.name.length ≤ 200 ∧ SmL r.body
def Small (p : Pg) : V → List Ob → Prop := fun r h' => ∃ b : Bool, r = .d (.bool b) ∧ h' = [] ∧ (b = true → SmP p)
theorem Small.no (p : Pg) : Small p (.d (.bool false)) [] := ⟨false, rfl, rfl, fun h => by cases h⟩
theorem SmL.of {l : List St} {n z : Int} (h : RestX l n z) (h0 : 0 ≤ z) (hn : n ≤ 1000) : SmL l := by
  obtain ⟨h1, h2, h3⟩ := h h0
  exact ⟨by omega, by omega, h1⟩
theorem small02_c (p : Pg) (n : Int) (hn0 : -1 ≤ n) (hn1 : n ≤ 1000) : PCalls Tryz.prog 5 [p.v, iv n] [] (Small p) := by
  refine fn_sem pok 113 0 Tryz.func5 (by kernel_rfl) rfl rfl rfl rfl ?_
  refine SWp.go pok (by kernel_rfl) ?_
  refine brP_split (fun h => ?_) (fun h => ?_)
  · exact Small.no p
  have hml : p.mons.length ≤ 20 := by simp at h; omega
  refine brP_split (fun h => ?_) (fun h => ?_)
  · exact Small.no p
  have hrl : p.roles.length ≤ 20 := by simp at h; omega
  refine SWp.loop (fun q : Nat × Int => q.1 ≤ p.mons.length ∧ -1 ≤ q.2 ∧ q.2 ≤ n ∧ (0 ≤ q.2 → ∀ m ∈ p.mons.take q.1, SmMo m))
    (fun q => ([(2, .ptr 0 0), (5, iv q.2), (6, iv q.1)], [.box [.d (.sl (p.mons.map Mo.c)), .d (.sl (p.roles.map Ro.c))]])) (fun q => p.mons.length - q.1) (0, n) ⟨Nat.zero_le _, hn0, Int.le_refl _, fun _ => by simp⟩ (Le.same ⟨rfl, rfl, rfl, trivial⟩) (fun q hq => ?_)
  obtain ⟨i, m⟩ := q
  obtain ⟨hi, hm0, hm1, hX⟩ := hq
  simp only at hi hm0 hm1 hX
  refine SWp.go pok (by kernel_rfl) ?_
  refine brP_split (fun h => ?_) (fun h => ?_)
  · have hlt : i < p.mons.length := by simpa using h
    refine PIdx.map (get_at hlt) ?_
    refine brP_split (fun h => ?_) (fun h => ?_)
    · exact Small.no p
    have hvl : p.mons[i].vars.length ≤ 40 := by simp at h; omega
    refine brP_split (fun h => ?_) (fun h => ?_)
    · exact Small.no p
    have hme : p.mons[i].methods.length ≤ 40 := by simp at h; omega
    refine brP_split (fun h => ?_) (fun h => ?_)
    · exact Small.no p
    have hnm : p.mons[i].name.length ≤ 200 := by simp at h; omega
    refine SWp.loop (fun k : Nat => k ≤ p.mons[i].vars.length ∧ ∀ v ∈ p.mons[i].vars.take k, v.name.length ≤ 200)
      (fun k => ([(2, .ptr 0 0), (5, iv m), (6, iv i), (7, .ptr 1 0), (8, iv k)], [.box [.d (.sl (p.mons.map Mo.c)), .d (.sl (p.roles.map Ro.c))], .box [sv' p.mons[i].name, .d (.sl (p.mons[i].vars.map Vr.c)), .d (.sl (p.mons[i].methods.map Mt.c)), iv p.mons[i].pl]]))
      (fun k => p.mons[i].vars.length - k) 0 ⟨Nat.zero_le _, by simp⟩ (Le.same ⟨rfl, rfl, rfl, rfl, rfl, trivial⟩) (fun k hk => ?_)
    obtain ⟨hk, hvn⟩ := hk
    refine SWp.go pok (by kernel_rfl) ?_
    refine brP_split (fun h => ?_) (fun h => ?_)
    · have hkl : k < p.mons[i].vars.length := by simpa using h
      refine PIdx.map (get_at hkl) ?_
      refine brP_split (fun h => ?_) (fun h => ?_)
      · exact Small.no p
      have hv1 : p.mons[i].vars[k].name.length ≤ 200 := by simp at h; omega
      exact ⟨k + 1, ⟨hkl, mem_take hkl hvn hv1⟩, by omega, Le.same ⟨rfl, rfl, rfl, rfl, sint (wrap_nat k (by omega)), trivial⟩⟩
    have hkv : k = p.mons[i].vars.length := by simp at h; omega
    subst hkv
    rw [List.take_length] at hvn
    refine SWp.loop (fun q : Nat × Int => q.1 ≤ p.mons[i].methods.length ∧ -1 ≤ q.2 ∧ q.2 ≤ n ∧ (0 ≤ q.2 → 0 ≤ m ∧ ∀ f ∈ p.mons[i].methods.take q.1, f.name.length ≤ 200 ∧ SmL f.body))
      (fun q => ([(2, .ptr 0 0), (5, iv q.2), (6, iv i), (7, .ptr 1 0), (9, iv q.1)], [.box [.d (.sl (p.mons.map Mo.c)), .d (.sl (p.roles.map Ro.c))], .box [sv' p.mons[i].name, .d (.sl (p.mons[i].vars.map Vr.c)), .d (.sl (p.mons[i].methods.map Mt.c)), iv p.mons[i].pl]]))
      (fun q => p.mons[i].methods.length - q.1) (0, m) ⟨Nat.zero_le _, hm0, hm1, fun h => ⟨h, by simp⟩⟩ (Le.same ⟨rfl, rfl, rfl, rfl, rfl, trivial⟩) (fun q hq => ?_)
    obtain ⟨k, u⟩ := q
    obtain ⟨hk, hu0, hu1, hU⟩ := hq
    simp only at hk hu0 hu1 hU
    refine SWp.go pok (by kernel_rfl) ?_
    refine brP_split (fun h => ?_) (fun h => ?_)
    · have hkl : k < p.mons[i].methods.length := by simpa using h
      refine PIdx.map (get_at hkl) ?_
      refine brP_split (fun h => ?_) (fun h => ?_)
      · exact Small.no p
      have hf1 : p.mons[i].methods[k].name.length ≤ 200 := by simp at h; omega
      refine PIdx.map (get_at hkl) ?_
      refine PCalls.mono (rest_c _ p.mons[i].methods[k].body u (Nat.le_refl _) hu0 (by omega)) ?_
      rintro r h' ⟨z, rfl, rfl, z0, z1, zX⟩
      exact ⟨(k + 1, z), ⟨hkl, z0, by show z ≤ n; omega, fun h0 => ⟨(hU (by have : 0 ≤ z := h0; omega)).1, mem_take hkl (hU (by have : 0 ≤ z := h0; omega)).2 ⟨hf1, SmL.of zX h0 (by omega)⟩⟩⟩, by show p.mons[i].methods.length - (k + 1) < p.mons[i].methods.length - k; omega, Le.same ⟨rfl, rfl, rfl, rfl, sint (wrap_nat k (by omega)), trivial⟩⟩
    · have hkm : k = p.mons[i].methods.length := by simp at h; omega
      subst hkm
      rw [List.take_length] at hU
      exact ⟨(i + 1, u), ⟨hlt, hu0, hu1, fun h0 => mem_take hlt (hX (hU h0).1) ⟨hnm, hvl, hme, hvn, (hU h0).2⟩⟩, by show p.mons.length - (i + 1) < p.mons.length - i; omega, .inr ⟨[0], ⟨rfl, rfl⟩, rfl, rfl, rfl, sint (wrap_nat i (by omega)), trivial⟩⟩
  · have hi' : i = p.mons.length := by simp at h; omega
    subst hi'
    rw [List.take_length] at hX
    refine SWp.loop (fun q : Nat × Int => q.1 ≤ p.roles.length ∧ -1 ≤ q.2 ∧ q.2 ≤ n ∧ (0 ≤ q.2 → 0 ≤ m ∧ ∀ r ∈ p.roles.take q.1, r.name.length ≤ 200 ∧ SmL r.body))
      (fun q => ([(2, .ptr 0 0), (5, iv q.2), (10, iv q.1)], [.box [.d (.sl (p.mons.map Mo.c)), .d (.sl (p.roles.map Ro.c))]])) (fun q => p.roles.length - q.1) (0, m) ⟨Nat.zero_le _, hm0, hm1, fun h => ⟨h, by simp⟩⟩ (Le.same ⟨rfl, rfl, rfl, trivial⟩) (fun q hq => ?_)
    obtain ⟨k, u⟩ := q
    obtain ⟨hk, hu0, hu1, hU⟩ := hq
    simp only at hk hu0 hu1 hU
    refine SWp.go pok (by kernel_rfl) ?_
    refine brP_split (fun h => ?_) (fun h => ?_)
    · have hkl : k < p.roles.length := by simpa using h
      refine PIdx.map (get_at hkl) ?_
      refine brP_split (fun h => ?_) (fun h => ?_)
      · exact Small.no p
      have hr1 : p.roles[k].name.length ≤ 200 := by simp at h; omega
      refine PIdx.map (get_at hkl) ?_
      refine PCalls.mono (rest_c _ p.roles[k].body u (Nat.le_refl _) hu0 (by omega)) ?_
      rintro r h' ⟨z, rfl, rfl, z0, z1, zX⟩
      exact ⟨(k + 1, z), ⟨hkl, z0, by show z ≤ n; omega, fun h0 => ⟨(hU (by have : 0 ≤ z := h0; omega)).1, mem_take hkl (hU (by have : 0 ≤ z := h0; omega)).2 ⟨hr1, SmL.of zX h0 (by omega)⟩⟩⟩, by show p.roles.length - (k + 1) < p.roles.length - k; omega, Le.same ⟨rfl, rfl, sint (wrap_nat k (by omega)), trivial⟩⟩
    · have hkr : k = p.roles.length := by simp at h; omega
      subst hkr
      rw [List.take_length] at hU
      refine brP_split (fun h => ?_) (fun h => ?_)
      · have h0 : 0 ≤ u := by simpa using h
        exact ⟨true, rfl, rfl, fun _ => ⟨hml, hrl, hX (hU h0).1, (hU h0).2⟩⟩
      · exact Small.no p
end Go.Proofs.YtmflfcbebeikcaaGreatDoor.Q

namespace Go.Proofs.YtmflfcbebeikcaaGreatDoor.Q
open Go.RowKit
/-- Numbers of a machine. -/
inductive StNum : St → Prop
  | mk {kind : Int} {mon name : Str} {n : Int} {e : Ex} {blocks : List (List St)} {pl : Int} (hn : R64 n) (he : e.nums) (k : ∀ b ∈ blocks, ∀ y ∈ b, StNum y) : StNum ⟨kind, mon, name, n, e, blocks, pl⟩
def VrNum (v : Vr) : Prop := R64 v.lo ∧ R64 v.hi ∧ R64 v.init
def MoNum (m : Mo) : Prop := (∀ v ∈ m.vars, VrNum v) ∧ ∀ f ∈ m.methods, ∀ y ∈ f.body, StNum y
def PgNum (p : Pg) : Prop := (∀ m ∈ p.mons, MoNum m) ∧ ∀ r ∈ p.roles, R64 r.count ∧ ∀ y ∈ r.body, StNum y
theorem rd_St (fuel : Nat) : RdD Tryz.prog fuel 60 (fun r => ∃ x : St, StNum x ∧ r = x.c) := by
  induction fuel using Nat.strongRecOn with
  | _ fuel ih =>
    refine (rdD_struct (fs := [(3, 0), (9, 1), (9, 2), (2, 3), (55, 4), (58, 10), (3, 11)]) (by kernel_rfl) (sz := 1 + (1 + (1 + (1 + (6 + (1 + 1)))))) (by kernel_rfl) fuel fun m hm =>
      frD_cons (by kernel_rfl) (rd_int m) (frD_cons (by kernel_rfl) (rd_str m) (frD_cons (by kernel_rfl) (rd_str m) (frD_cons (by kernel_rfl) (rd_int64 m) (frD_cons (by kernel_rfl) (rd_Ex m)
        (frD_cons (by kernel_rfl) (rdD_slice (sz := 1) (e := 47) (by kernel_rfl) (by kernel_rfl) (by decide) m fun m' hm' => rdD_slice (sz := 12) (e := 60) (by kernel_rfl) (by kernel_rfl) (by decide) m' fun m'' hm'' => ih m'' (by omega)) (frD_last (by kernel_rfl) (rd_int m)))))))).mono ?_
    rintro r ⟨_, _, ⟨kind, h1, rfl⟩, ⟨_, _, ⟨mon, h2, rfl⟩, ⟨_, _, ⟨name, h3, rfl⟩, ⟨_, _, ⟨n, h4, rfl⟩, ⟨_, _, ⟨e, h5, rfl⟩, ⟨_, _, ⟨rows, h6, h7, rfl⟩, ⟨pl, h8, rfl⟩, rfl⟩, rfl⟩, rfl⟩, rfl⟩, rfl⟩, rfl⟩
    obtain ⟨bs, rfl, hbs⟩ := rows_map (f := blk) (p := fun b => ∀ y ∈ b, StNum y) (rows := rows) fun q hq => by
      obtain ⟨qs, k1, k2, rfl⟩ := h6 q hq
      obtain ⟨b, rfl, hb⟩ := rows_map k1
      exact ⟨b, hb, rfl⟩
    exact ⟨⟨kind, mon, name, n, e, bs, pl⟩, .mk h4 h5 hbs, by letI : Amb := ambD; rw [St.c_eq]; simp⟩
theorem rd_body (fuel : Nat) : RdD Tryz.prog fuel 47 (fun r => ∃ l : List St, (∀ y ∈ l, StNum y) ∧ r = [.sl (l.map St.c)]) :=
  (rdD_slice (sz := 12) (e := 60) (by kernel_rfl) (by kernel_rfl) (by decide) fuel fun m _ => rd_St m).mono fun r ⟨rows, h1, h2, e⟩ => by
    obtain ⟨l, rfl, h3⟩ := rows_map h1
    exact ⟨l, h3, e⟩
theorem rd_Vr (fuel : Nat) : RdD Tryz.prog fuel 46 (fun r => ∃ x : Vr, VrNum x ∧ r = x.c) := by
  refine (rdD_struct (fs := [(9, 0), (3, 1), (2, 2), (2, 3), (2, 4), (3, 5)]) (by kernel_rfl) (sz := 1 + (1 + (1 + (1 + (1 + 1))))) (by kernel_rfl) fuel fun m hm =>
    frD_cons (by kernel_rfl) (rd_str m) (frD_cons (by kernel_rfl) (rd_int m) (frD_cons (by kernel_rfl) (rd_int64 m) (frD_cons (by kernel_rfl) (rd_int64 m) (frD_cons (by kernel_rfl) (rd_int64 m) (frD_last (by kernel_rfl) (rd_int m))))))).mono ?_
  rintro r ⟨_, _, ⟨a, _, rfl⟩, ⟨_, _, ⟨b, _, rfl⟩, ⟨_, _, ⟨c, hc, rfl⟩, ⟨_, _, ⟨d, hd, rfl⟩, ⟨_, _, ⟨e, he, rfl⟩, ⟨f, _, rfl⟩, rfl⟩, rfl⟩, rfl⟩, rfl⟩, rfl⟩
  exact ⟨⟨a, b, c, d, e, f⟩, ⟨hc, hd, he⟩, rfl⟩
theorem rd_Mt (fuel : Nat) : RdD Tryz.prog fuel 49 (fun r => ∃ x : Mt, (∀ y ∈ x.body, StNum y) ∧ r = x.c) := by
  refine (rdD_struct (fs := [(9, 0), (47, 1), (3, 2)]) (by kernel_rfl) (sz := 1 + (1 + 1)) (by kernel_rfl) fuel fun m hm =>
    frD_cons (by kernel_rfl) (rd_str m) (frD_cons (by kernel_rfl) (rd_body m) (frD_last (by kernel_rfl) (rd_int m)))).mono ?_
  rintro r ⟨_, _, ⟨a, _, rfl⟩, ⟨_, _, ⟨b, hb, rfl⟩, ⟨c, _, rfl⟩, rfl⟩, rfl⟩
  exact ⟨⟨a, b, c⟩, hb, rfl⟩
theorem rd_Mo (fuel : Nat) : RdD Tryz.prog fuel 44 (fun r => ∃ x : Mo, MoNum x ∧ r = x.c) := by
  refine (rdD_struct (fs := [(9, 0), (41, 1), (42, 2), (3, 3)]) (by kernel_rfl) (sz := 1 + (1 + (1 + 1))) (by kernel_rfl) fuel fun m hm =>
    frD_cons (by kernel_rfl) (rd_str m) (frD_cons (by kernel_rfl) (rdD_slice (sz := 6) (e := 46) (by kernel_rfl) (by kernel_rfl) (by decide) m fun m' _ => rd_Vr m') (frD_cons (by kernel_rfl) (rdD_slice (sz := 3) (e := 49) (by kernel_rfl) (by kernel_rfl) (by decide) m fun m' _ => rd_Mt m') (frD_last (by kernel_rfl) (rd_int m))))).mono ?_
  rintro r ⟨_, _, ⟨a, _, rfl⟩, ⟨_, _, ⟨vs, k1, _, rfl⟩, ⟨_, _, ⟨ms, k2, _, rfl⟩, ⟨c, _, rfl⟩, rfl⟩, rfl⟩, rfl⟩
  obtain ⟨l1, rfl, g1⟩ := rows_map k1
  obtain ⟨l2, rfl, g2⟩ := rows_map k2
  exact ⟨⟨a, l1, l2, c⟩, ⟨g1, g2⟩, rfl⟩
theorem rd_Ro (fuel : Nat) : RdD Tryz.prog fuel 52 (fun r => ∃ x : Ro, (R64 x.count ∧ ∀ y ∈ x.body, StNum y) ∧ r = x.c) := by
  refine (rdD_struct (fs := [(9, 0), (4, 1), (2, 2), (47, 3), (3, 4)]) (by kernel_rfl) (sz := 1 + (1 + (1 + (1 + 1)))) (by kernel_rfl) fuel fun m hm =>
    frD_cons (by kernel_rfl) (rd_str m) (frD_cons (by kernel_rfl) (rd_bool m) (frD_cons (by kernel_rfl) (rd_int64 m) (frD_cons (by kernel_rfl) (rd_body m) (frD_last (by kernel_rfl) (rd_int m)))))).mono ?_
  rintro r ⟨_, _, ⟨a, _, rfl⟩, ⟨_, _, ⟨b, rfl⟩, ⟨_, _, ⟨c, hc, rfl⟩, ⟨_, _, ⟨d, hd, rfl⟩, ⟨e, _, rfl⟩, rfl⟩, rfl⟩, rfl⟩, rfl⟩
  exact ⟨⟨a, b, c, d, e⟩, ⟨hc, hd⟩, rfl⟩
theorem rd_Pg (fuel : Nat) : RdD Tryz.prog fuel 25 (fun r => ∃ x : Pg, PgNum x ∧ r = [.sl (x.mons.map Mo.c), .sl (x.roles.map Ro.c)]) := by
  refine (rdD_struct (fs := [(22, 0), (23, 1)]) (by kernel_rfl) (sz := 1 + 1) (by kernel_rfl) fuel fun m hm =>
    frD_cons (by kernel_rfl) (rdD_slice (sz := 4) (e := 44) (by kernel_rfl) (by kernel_rfl) (by decide) m fun m' _ => rd_Mo m') (frD_last (by kernel_rfl) (rdD_slice (sz := 5) (e := 52) (by kernel_rfl) (by kernel_rfl) (by decide) m fun m' _ => rd_Ro m'))).mono ?_
  rintro r ⟨_, _, ⟨vs, k1, _, rfl⟩, ⟨ms, k2, _, rfl⟩, rfl⟩
  obtain ⟨l1, rfl, g1⟩ := rows_map k1
  obtain ⟨l2, rfl, g2⟩ := rows_map k2
  exact ⟨⟨l1, l2⟩, ⟨g1, g2⟩, rfl⟩
section
variable {H : Type} {enc : TypeId × Value → H} {d : DataW H} {p : List MemPlace} {base : Nat}
theorem read_Pg (W : World) (v : Value) (hv : Value.okWide Tryz.prog W .any base 25 v) (h : DataW.Trod enc Tryz.prog W 0 (fun _ => true) true 25 v d p) : ∃ x : Pg, PgNum x ∧ x.v.rep (allG W) (fun _ _ => none) v := by
  obtain ⟨r, ⟨x, hx, rfl⟩, hr⟩ := read_agg (fs := [(22, 0), (23, 1)]) (by kernel_rfl) rd_Pg hv h
  exact ⟨x, hx, hr⟩
end
end Go.Proofs.YtmflfcbebeikcaaGreatDoor.Q

namespace Go.Proofs.YtmflfcbebeikcaaGreatDoor.Q
open Go.RowKit
variable [Amb] [Pow]
theorem SmE.fits {e : Ex} (h : SmE e) : e.fits := ⟨by have := h.1; omega, fun y hy => by have := h.2 y hy; exact ⟨by omega, by omega, by omega⟩⟩
theorem SmS.f {y : St} (h : SmS y) : SF y := by
  induction h with
  | mk hm hn he hb hl k ih => exact .mk (by omega) (by omega) he.fits (by omega) (fun b hb' => by have := hl b hb'; omega) ih
theorem SmS.fit {y : St} (h : SmS y) : y.Fit := by
  induction h with
  | @mk kind mon name n e blocks pl hm hn he hb hl k ih => exact .mk (fits_Fit _ e (Nat.le_refl _) fun y hy => (he.fits.2 y hy).1) (by show blocks.length < 1099511627776; omega) (fun b hb' => by have := hl b hb'; show b.length < 1099511627776; omega) ih
/-- All that is asked of a statement that is right. -/
structure Alls (y : St) : Prop where
  n : StN y
  p : StP y
  k : StK y
theorem ok_kids {kind : Int} {mon name : Str} {n : Int} {e : Ex} {blocks : List (List St)} {pl : Int} (h : (St.mk kind mon name n e blocks pl).ok = true) : HeadIs kind mon name n e blocks.length ∧ ∀ b ∈ blocks, ∀ y ∈ b, y.ok = true := by
  rw [St.ok, Bool.and_eq_true] at h
  refine ⟨head_is h.1, fun b hb y hy => ?_⟩
  have h2 := h.2
  rw [St.okB_all, List.all_eq_true] at h2
  have h3 := h2 b hb
  rw [St.okL_all, List.all_eq_true] at h3
  exact h3 y hy
theorem SmS.all {y : St} (h : SmS y) : StNum y → y.ok = true → Alls y := by
  induction h with
  | @mk kind mon name n e blocks pl hm hn he hb hl k ih =>
    intro hN hok
    obtain ⟨hh, hkids⟩ := ok_kids hok
    cases hN with
    | mk nn ne nk =>
    have hA : ∀ b ∈ blocks, ∀ y ∈ b, Alls y := fun b hb' y hy => ih b hb' y hy (nk b hb' y hy) (hkids b hb' y hy)
    have hp : e.op ≠ 0 → PrOk e := fun h0 => by
      by_cases hk : kind = 2 ∨ kind = 3 ∨ kind = 4
      · exact checkS_ok (hh.ex hk) ne
      · exact absurd (hh.ex' hk).1 h0
    have hlb : ∀ b ∈ blocks, b.length < 1073741824 := fun b hb' => by have := hl b hb'; omega
    exact ⟨.mk (fun h0 => ⟨hp h0, by have := he.1; omega⟩) (by omega) hlb fun b hb' y hy => (hA b hb' y hy).n,
      .mk hh.k nn (fun h2 => checkS_ok (hh.ex (.inl h2)) ne) hp (by omega) hlb fun b hb' y hy => (hA b hb' y hy).p,
      .mk hh nn ne fun b hb' y hy => (hA b hb' y hy).k⟩
/-! ### how long a text is -/
theorem txL_len {l : List St} {o K : Nat} (h : ∀ y ∈ l, (y.tx o).length ≤ y.cn * K) : (St.txL l o).length ≤ St.cnL l * K := by
  induction l with
  | nil => rw [St.txL]; exact Nat.zero_le _
  | cons a r ih =>
    rw [St.txL, St.cnL, List.length_append, Nat.add_mul]
    have h1 := h a (by simp)
    have h2 := ih fun y hy => h y (List.mem_cons_of_mem _ hy)
    omega
theorem txB_len {l : List (List St)} {w : Str} {o K : Nat} (hw : w.length ≤ 10) (h : ∀ b ∈ l, ∀ y ∈ b, (y.tx (o + 1)).length ≤ y.cn * K) : ∀ i, (St.txB l w o i).length ≤ St.cnB l * K + l.length * (20 + 2 * o) := by
  induction l with
  | nil => intro i; rw [St.txB]; exact Nat.zero_le _
  | cons a r ih =>
    intro i
    rw [St.txB, St.cnB]
    have h1 := txL_len (h a (by simp))
    have h2 := ih (fun b hb => h b (List.mem_cons_of_mem _ hb)) (i + 1)
    have hs : (sepB w i).length ≤ 11 := by unfold sepB; split <;> simp; omega
    have h3 : (a :: r).length * (20 + 2 * o) = r.length * (20 + 2 * o) + (20 + 2 * o) := by rw [List.length_cons, Nat.succ_mul]
    rw [h3, Nat.add_mul]
    simp only [List.length_append, ind_len, List.length_cons, List.length_nil]
    omega
theorem dec_r64 {n : Int} (h0 : 0 ≤ n) (h : R64 n) : (Lib.itoa n).length ≤ 19 := by
  rw [itoa_nn h0]
  exact dec_len19 18 _ (by unfold R64 at h; omega)
theorem word_len (kind : Int) : (wordOf kind).length ≤ 10 := by
  unfold wordOf
  split
  · decide
  split <;> decide
theorem stK_len {kind : Int} {mon name : Str} {n : Int} {e : Ex} {o : Nat} {bt : Str} {len : Nat} (hh : HeadIs kind mon name n e len) (hn : R64 n) (he : e.op ≠ 0 → PrOk e) (hs : e.pre.length ≤ 10000) : (stK kind mon name n e o bt).length ≤ 360300 + 2 * o + bt.length := by
  have hm : mon.length ≤ 32 := by
    by_cases h : kind = 2 ∨ 7 ≤ kind
    · exact (isName_is (hh.mon h)).2.1
    · rw [hh.mon' h]; exact Nat.zero_le _
  have hnm : name.length ≤ 32 := by
    by_cases h : kind = 2 ∨ kind = 8
    · exact (isName_is (hh.name h)).2.1
    · rw [hh.name' h]; exact Nat.zero_le _
  have hx : (exT e).length ≤ 360030 := by
    unfold exT
    split
    · exact Nat.zero_le _
    · rename_i h0
      have := pr_len' _ e (Nat.le_refl _) (he h0) 1 (by decide)
      simp only [List.length_append, List.length_singleton]; omega
  have hpr : kind = 2 → (e.pr 1).length ≤ 360029 := fun h2 => by
    have h0 : e.op ≠ 0 := fun h0 => by
      have := hh.ex (.inl h2)
      unfold checkS at this
      cases hall : e.pre.all isPartS with
      | false => rw [hall] at this; exact absurd this (by decide)
      | true =>
        have h3 := List.all_eq_true.1 hall e (by rw [e.pre_eq]; simp)
        unfold isPartS at h3
        rw [h0] at h3
        simp only [Bool.and_eq_true, beq_iff_eq] at h3
        have h4 := h3.1.1
        have h5 : partsS 0 = -1 := rfl
        omega
    have := pr_len' _ e (Nat.le_refl _) (he h0) 1 (by decide)
    omega
  have hi := ind_len o
  have hnn := dec_r64 hh.n0 hn
  have hw : ((if n > 0 then [32] ++ Lib.itoa n else []) : Str).length ≤ 20 := by
    split
    · simp only [List.length_append, List.length_singleton]; omega
    · exact Nat.zero_le _
  have hk := hh.k
  have hkk : kind = 1 ∨ kind = 2 ∨ kind = 3 ∨ kind = 4 ∨ kind = 5 ∨ kind = 6 ∨ kind = 7 ∨ kind = 8 ∨ kind = 9 ∨ kind = 10 ∨ kind = 11 := by omega
  rcases hkk with rfl | rfl | rfl | rfl | rfl | rfl | rfl | rfl | rfl | rfl | rfl
  · show (ind o ++ ([115, 107, 105, 112, 59] ++ [10])).length ≤ _
    rw [List.length_append, hi]
    show 2 * o + 6 ≤ _
    omega
  · have h2 := hpr rfl
    show ((ind o ++ (mon ++ ([46] ++ (name ++ [32, 61, 32])))) ++ (e.pr 1 ++ [59, 10])).length ≤ _
    rw [List.length_append, List.length_append, List.length_append, List.length_append, List.length_append, List.length_append, hi]
    show 2 * o + (mon.length + (1 + (name.length + 3))) + ((e.pr 1).length + 2) ≤ _
    omega
  · show ((ind o ++ [105, 102]) ++ (exT e ++ bt)).length ≤ _
    rw [List.length_append, List.length_append, List.length_append, hi]
    show 2 * o + 2 + ((exT e).length + bt.length) ≤ _
    omega
  · show ((ind o ++ [119, 104, 105, 108, 101]) ++ (exT e ++ bt)).length ≤ _
    rw [List.length_append, List.length_append, List.length_append, hi]
    show 2 * o + 5 + ((exT e).length + bt.length) ≤ _
    omega
  · show ((ind o ++ [108, 111, 111, 112]) ++ (exT e ++ bt)).length ≤ _
    rw [List.length_append, List.length_append, List.length_append, hi]
    show 2 * o + 4 + ((exT e).length + bt.length) ≤ _
    omega
  · show ((ind o ++ [99, 104, 111, 111, 115, 101]) ++ (exT e ++ bt)).length ≤ _
    rw [List.length_append, List.length_append, List.length_append, hi]
    show 2 * o + 6 + ((exT e).length + bt.length) ≤ _
    omega
  · show ((ind o ++ ([115, 121, 110, 99, 32] ++ mon)) ++ (exT e ++ bt)).length ≤ _
    rw [List.length_append, List.length_append, List.length_append, List.length_append, hi]
    show 2 * o + (5 + mon.length) + ((exT e).length + bt.length) ≤ _
    omega
  · show (ind o ++ (([99, 97, 108, 108, 32] ++ (mon ++ ([46] ++ (name ++ [59])))) ++ [10])).length ≤ _
    rw [List.length_append, List.length_append, List.length_append, List.length_append, List.length_append, List.length_append, hi]
    show 2 * o + (5 + (mon.length + (1 + (name.length + 1))) + 1) ≤ _
    omega
  · show ((ind o ++ ([119, 97, 105, 116, 32] ++ mon)) ++ ((if n > 0 then [32] ++ Lib.itoa n else []) ++ [59, 10])).length ≤ _
    generalize (if n > 0 then [32] ++ Lib.itoa n else [] : Str) = W at hw
    rw [List.length_append, List.length_append, List.length_append, List.length_append, hi]
    show 2 * o + (5 + mon.length) + (W.length + 2) ≤ _
    omega
  · show (ind o ++ (([110, 111, 116, 105, 102, 121, 32] ++ (mon ++ [59])) ++ [10])).length ≤ _
    rw [List.length_append, List.length_append, List.length_append, List.length_append, hi]
    show 2 * o + (7 + (mon.length + 1) + 1) ≤ _
    omega
  · show (ind o ++ (([110, 111, 116, 105, 102, 121, 97, 108, 108, 32] ++ (mon ++ [59])) ++ [10])).length ≤ _
    rw [List.length_append, List.length_append, List.length_append, List.length_append, hi]
    show 2 * o + (10 + (mon.length + 1) + 1) ≤ _
    omega
theorem tx_len (N : Nat) : ∀ (y : St) (o : Nat), y.cn ≤ N → SmS y → StK y → (y.tx o).length ≤ y.cn * (400000 + 100 * (o + y.cn)) := by
  induction N with
  | zero => intro y o h; have := y.cn_pos; omega
  | succ N ih =>
    intro y o hN hS hK
    have hkid : ∀ b ∈ y.blocks, ∀ z ∈ b, SmS z → StK z → (z.tx (o + 1)).length ≤ z.cn * (400000 + 100 * (o + y.cn)) := fun b hb z hz h1 h2 => by
      have hlt := y.cn_kid hb hz
      have h3 := ih z (o + 1) (by omega) h1 h2
      have h4 : z.cn * (400000 + 100 * (o + 1 + z.cn)) ≤ z.cn * (400000 + 100 * (o + y.cn)) := Nat.mul_le_mul_left _ (by omega)
      omega
    cases hS with
    | @mk kind mon name n e blocks pl hm hn he hb hl k =>
    cases hK with
    | mk hh nn ne nk =>
    have hp : e.op ≠ 0 → PrOk e := fun h0 => by
      by_cases hk : kind = 2 ∨ kind = 3 ∨ kind = 4
      · exact checkS_ok (hh.ex hk) ne
      · exact absurd (hh.ex' hk).1 h0
    dsimp only at hkid
    rw [St.tx]
    have h1 := stK_len (o := o) (bt := St.txB blocks (wordOf kind) o 0 ++ [10]) hh nn hp he.1
    have h2 := txB_len (word_len kind) (fun b hb' z hz => hkid b hb' z hz (k b hb' z hz) (nk b hb' z hz)) 0
    have e1 : (St.mk kind mon name n e blocks pl).cn = 1 + St.cnB blocks := by rw [St.cn]
    rw [e1] at h2 ⊢
    have h3 : blocks.length * (20 + 2 * o) ≤ 40 * (20 + 2 * o) := Nat.mul_le_mul_right _ hb
    rw [List.length_append, List.length_singleton] at h1
    rw [Nat.add_mul, Nat.one_mul]
    omega
theorem body_len {l : List St} {o : Nat} (ho : o ≤ 10) (h : SmL l) (hK : ∀ y ∈ l, StK y) : (St.txL l o).length ≤ 15000000000 := by
  have h1 := txL_len (o := o) (K := 400000 + 100 * (o + 10000)) (l := l) fun y hy => by
    have h2 := tx_len _ y o (Nat.le_refl _) (h.all y hy) (hK y hy)
    have h3 := St.cnL_mem hy
    have h4 := h.cn
    have h5 : y.cn * (400000 + 100 * (o + y.cn)) ≤ y.cn * (400000 + 100 * (o + 10000)) := Nat.mul_le_mul_left _ (by omega)
    omega
  have h4 := h.cn
  have h5 : St.cnL l * (400000 + 100 * (o + 10000)) ≤ 10000 * (400000 + 100 * (10 + 10000)) := Nat.mul_le_mul h4 (by omega)
  omega
theorem catG_len {α : Type} {f : α → Str} {B : Nat} : ∀ {l : List α}, (∀ x ∈ l, (f x).length ≤ B) → (catG f l).length ≤ l.length * B
  | [], _ => Nat.zero_le _
  | a :: r, h => by
    rw [catG, List.length_append, List.length_cons, Nat.succ_mul]
    have h1 := h a (by simp)
    have h2 := catG_len (l := r) fun x hx => h x (List.mem_cons_of_mem _ hx)
    omega
theorem itoa_len20 {n : Int} (h : R64 n) (hm : n ≠ -9223372036854775808) : (Lib.itoa n).length ≤ 20 := by
  unfold R64 at h
  unfold Lib.itoa
  split
  · rw [List.length_cons]
    have := dec_len19 18 n.natAbs (by omega)
    omega
  · have := dec_len19 18 n.toNat (by omega)
    omega
theorem vrT_len {v : Vr} (h : VrIs v) (o : Nat) : (vrT v o).length ≤ 200 + 2 * o := by
  have h1 := (isName_is h.name).2.1
  have h2 := itoa_len20 h.lo.1 h.lo.2
  have h3 := itoa_len20 h.hi.1 h.hi.2
  have h4 := itoa_len20 h.init.1 h.init.2
  have h5 : (boolS (v.init == 1)).length ≤ 5 := by cases (v.init == 1) <;> decide
  have hk : (vrK v).length ≤ 100 := by
    unfold vrK
    split
    · simp only [List.length_append, List.length_cons, List.length_nil]; omega
    split
    · simp only [List.length_append, List.length_cons, List.length_nil]; omega
    · simp only [List.length_append, List.length_cons, List.length_nil]; omega
  unfold vrT
  simp only [List.length_append, List.length_cons, List.length_nil, ind_len]; omega
/-! ### programs -/
structure PgAll (x : Pg) : Prop where
  f : PgF x
  n : checkP x = 0 → PgN x
  p : checkP x = 0 → PgP x ∧ (textS x).length ≤ room
  k : checkP x = 0 → PgK x
  fit : x.Fit
theorem SmL.bf {l : List St} (h : SmL l) : BF l := ⟨by have := h.len; omega, fun y hy => (h.all y hy).f⟩
theorem SmL.bd {l : List St} (h : SmL l) : Bd l := ⟨by have := h.len; show l.length < 1099511627776; omega, fun y hy => (h.all y hy).fit⟩
theorem okL_mem {l : List St} (h : St.okL l = true) : ∀ y ∈ l, y.ok = true := by
  rw [St.okL_all, List.all_eq_true] at h; exact h
theorem check_ok {p : Pg} (h : checkP p = 0) : p.ok = true := by
  unfold checkP at h
  cases hp : p.ok with
  | true => rfl
  | false => rw [hp] at h; exact absurd h (by decide)
structure OkP (p : Pg) : Prop where
  mlen : p.mons.length ≤ 8
  rlen : p.roles.length ≤ 8
  mons : ∀ m ∈ p.mons, isName m.name = true ∧ (∀ v ∈ m.vars, v.ok = true) ∧ ∀ f ∈ m.methods, isName f.name = true ∧ ∀ y ∈ f.body, y.ok = true
  roles : ∀ r ∈ p.roles, isName r.name = true ∧ 0 ≤ r.count ∧ ∀ y ∈ r.body, y.ok = true
theorem ok_is {p : Pg} (h : p.ok = true) : OkP p := by
  unfold Pg.ok at h
  simp only [Bool.and_eq_true, decide_eq_true_eq, List.all_eq_true] at h
  obtain ⟨⟨⟨o1, o2⟩, o3⟩, o4⟩ := h
  refine ⟨o1, o2, fun m hm => ?_, fun r hr => ?_⟩
  · have hmo := o3 m hm
    unfold Mo.ok at hmo
    simp only [Bool.and_eq_true, decide_eq_true_eq, List.all_eq_true] at hmo
    obtain ⟨⟨⟨⟨k1, k2⟩, k3⟩, k4⟩, k5⟩ := hmo
    refine ⟨k1, k4, fun f hf => ?_⟩
    have hmt := k5 f hf
    unfold Mt.ok at hmt
    rw [Bool.and_eq_true] at hmt
    exact ⟨hmt.1, okL_mem hmt.2⟩
  · have hro := o4 r hr
    unfold Ro.ok at hro
    simp only [Bool.and_eq_true, decide_eq_true_eq] at hro
    exact ⟨hro.1.1.1, hro.1.1.2, okL_mem hro.2⟩
theorem SmP.all {p : Pg} (h : SmP p) (hN : PgNum p) : PgAll p := by
  have hal : checkP p = 0 → (∀ m ∈ p.mons, ∀ f ∈ m.methods, ∀ y ∈ f.body, Alls y) ∧ ∀ r ∈ p.roles, ∀ y ∈ r.body, Alls y := fun hc => by
    have ho := ok_is (check_ok hc)
    exact ⟨fun m hm f hf y hy => (((h.mons m hm).meths f hf).2.all y hy).all ((hN.1 m hm).2 f hf y hy) (((ho.mons m hm).2.2 f hf).2 y hy), fun r hr y hy => ((h.roles r hr).2.all y hy).all ((hN.2 r hr).2 y hy) ((ho.roles r hr).2.2 y hy)⟩
  have hml := h.mlen
  have hrl := h.rlen
  have hvr : ∀ m ∈ p.mons, ∀ v ∈ m.vars, VrP v := fun m hm v hv => ⟨((hN.1 m hm).1 v hv).1, ((hN.1 m hm).1 v hv).2.1, ((hN.1 m hm).1 v hv).2.2⟩
  refine ⟨⟨fun m hm => ?_, fun r hr => ?_⟩, fun hc => ?_, fun hc => ⟨?_, ?_⟩, fun hc => ?_, ?_⟩
  · have g := h.mons m hm
    exact ⟨by have := g.name; omega, by have := g.vlen; omega, by have := g.mlen; omega, fun v hv => by have := g.vars v hv; omega, fun f hf => ⟨by have := (g.meths f hf).1; omega, (g.meths f hf).2.bf⟩⟩
  · have g := h.roles r hr
    exact ⟨by have := g.1; omega, g.2.bf⟩
  · obtain ⟨a1, a2⟩ := hal hc
    refine ⟨by omega, by omega, fun m hm => by have := (h.mons m hm).mlen; omega, fun m hm f hf => ?_, fun r hr => ?_⟩
    · have g := ((h.mons m hm).meths f hf).2
      exact ⟨by have := g.len; omega, by have := g.cn; omega, fun y hy => (a1 m hm f hf y hy).n⟩
    · have g := (h.roles r hr).2
      exact ⟨by have := g.len; omega, by have := g.cn; omega, fun y hy => (a2 r hr y hy).n⟩
  · obtain ⟨a1, a2⟩ := hal hc
    refine ⟨by omega, by omega, fun m hm => ?_, fun r hr => ?_⟩
    · have g := h.mons m hm
      exact ⟨by have := g.vlen; omega, by have := g.mlen; omega, hvr m hm, fun f hf => ⟨by have := (g.meths f hf).2.len; omega, fun y hy => (a1 m hm f hf y hy).p⟩⟩
    · exact ⟨(hN.2 r hr).1, by have := (h.roles r hr).2.len; omega, fun y hy => (a2 r hr y hy).p⟩
  · obtain ⟨a1, a2⟩ := hal hc
    have ho := ok_is (check_ok hc)
    have hM : (catG (fun m => moT m 0) p.mons).length ≤ p.mons.length * 1000000000000 := catG_len fun m hm => by
      have g := h.mons m hm
      have h1 : (catG (fun v => vrT v (0 + 1)) m.vars).length ≤ m.vars.length * 300 := catG_len fun v hv => by
        have := vrT_len (vr_is ((ho.mons m hm).2.1 v hv) (hvr m hm v hv)) (0 + 1)
        omega
      have h2 : (catG (fun f => mtT f (0 + 1)) m.methods).length ≤ m.methods.length * 20000000000 := catG_len fun f hf => by
        have h3 := body_len (o := 2) (by decide) (g.meths f hf).2 fun y hy => (a1 m hm f hf y hy).k
        have h4 := (g.meths f hf).1
        unfold mtT
        rw [blockT_X]
        unfold blkX
        simp only [List.length_append, List.length_cons, List.length_nil, ind_len]
        have e : 0 + 1 + 1 = 2 := rfl
        rw [e]; omega
      have h5 : m.vars.length * 300 ≤ 40 * 300 := Nat.mul_le_mul_right _ g.vlen
      have h6 : m.methods.length * 20000000000 ≤ 40 * 20000000000 := Nat.mul_le_mul_right _ g.mlen
      have h7 := g.name
      unfold moT moH
      simp only [List.length_append, List.length_cons, List.length_nil, ind_len]
      omega
    have hR : (catG (fun r => roT r 0) p.roles).length ≤ p.roles.length * 20000000000 := catG_len fun r hr => by
      have g := h.roles r hr
      have h3 := body_len (o := 1) (by decide) g.2 fun y hy => (a2 r hr y hy).k
      have h4 := g.1
      have h5 := dec_r64 (ho.roles r hr).2.1 (hN.2 r hr).1
      have h6 : ((if r.star = true then [42] else Lib.itoa r.count) : Str).length ≤ 20 := by
        split
        · show 1 ≤ 20; decide
        · omega
      unfold roT
      rw [blockT_X]
      unfold blkX
      simp only [List.length_append, List.length_cons, List.length_nil, ind_len]
      have e : 0 + 1 = 1 := rfl
      rw [e]; omega
    have h5 : p.mons.length * 1000000000000 ≤ 20 * 1000000000000 := Nat.mul_le_mul_right _ hml
    have h6 : p.roles.length * 20000000000 ≤ 20 * 20000000000 := Nat.mul_le_mul_right _ hrl
    have hroom : room = 140737488355328 := rfl
    unfold textS
    rw [List.length_append, hroom]
    omega
  · obtain ⟨a1, a2⟩ := hal hc
    exact ⟨check_ok hc, hvr, fun m hm f hf y hy => (a1 m hm f hf y hy).k, fun r hr => ⟨(hN.2 r hr).1, fun y hy => (a2 r hr y hy).k⟩⟩
  · exact ⟨by show p.mons.length < 1099511627776; omega, by show p.roles.length < 1099511627776; omega, fun m hm => by have := (h.mons m hm).vlen; show m.vars.length < 1099511627776; omega, fun m hm => by have := (h.mons m hm).mlen; show m.methods.length < 1099511627776; omega, fun m hm f hf => ((h.mons m hm).meths f hf).2.bd, fun r hr => (h.roles r hr).2.bd⟩
/-! ### texts tell programs apart -/
theorem textP_ok {p : Pg} (h : (textP p).2 = 0) : checkP p = 0 ∧ nestPg p ≤ 64 ∧ (textS p).length ≤ 20000 ∧ (textP p).1 = textS p := by
  unfold textP at h ⊢
  by_cases h1 : checkP p ≠ 0
  · rw [if_pos h1] at h; exact absurd h h1
  rw [if_neg h1] at h ⊢
  have h1 : checkP p = 0 := by simpa using h1
  by_cases h2 : nestPg p > 64
  · rw [if_pos h2] at h; exact absurd h (by show ¬ (41 : Int) = 0; decide)
  rw [if_neg h2] at h ⊢
  unfold toldS at h ⊢
  by_cases h3 : (textS p).length > 20000
  · rw [if_pos h3] at h; exact absurd h (by show ¬ (1 : Int) = 0; decide)
  rw [if_neg h3]
  exact ⟨h1, by omega, by omega, rfl⟩
theorem textP_nn (p : Pg) : 0 ≤ (textP p).2 ∧ (textP p).2 ≤ 50 := by
  unfold textP
  split
  · unfold checkP; cases p.ok <;> decide
  split
  · show (0 : Int) ≤ 41 ∧ (41 : Int) ≤ 50; decide
  · unfold toldS; split <;> (dsimp only; decide)
theorem apart_prog {p q : Pg} (hp : PgK p) (hq : PgK q) (np : nestPg p ≤ 64) (nq : nestPg q ≤ 64) (lp : (textS p).length ≤ 20000) (lq : (textS q).length ≤ 20000) : (textS p == textS q) = p.same q := by
  rw [Bool.eq_iff_iff, beq_iff_eq, Pg.same_er]
  constructor
  · intro h
    obtain ⟨p', e1, e2⟩ := prog_back p hp np lp
    obtain ⟨q', f1, f2⟩ := prog_back q hq nq lq
    rw [h, f1] at e1
    have : q' = p' := congrArg Prod.fst e1
    rw [← e2, ← f2, this]
  · intro h
    rw [← textS_er p, ← textS_er q, h]
end Go.Proofs.YtmflfcbebeikcaaGreatDoor.Q
