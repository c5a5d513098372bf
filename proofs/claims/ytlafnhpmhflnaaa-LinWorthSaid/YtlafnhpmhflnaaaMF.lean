/- Fixed sums; how arguments are read. No condition. -/
import Derived.Test.YtlafnhpmhflnaaaME
import Derived.Test.YtlafnhpmhflnaaaMD
import Derived.Test.YtlafnhpmhflnaaaMC
import Derived.ChangeArms
import Derived.Deep.Slices
import Derived.Test.YtlafnhpmhflnaaaMB
import Derived.WideShapes
import Derived.ChangeShapes
set_option linter.unusedVariables false
set_option linter.unusedSectionVars false
set_option linter.unnecessarySimpa false
set_option linter.unusedSimpArgs false
set_option maxRecDepth 100000
set_option maxHeartbeats 4000000
namespace Go.Proofs.Ytlafnhpmhflnaaa.Q
open Go.RowKit
variable [Amb]
def liveP : Pg := ⟨[⟨[97], [⟨[120], 2, 0, 0, 0, 0⟩], [], 0⟩], []⟩
def liveX : Ex := ⟨4, [97], [120], 0, [], 0⟩
def liveE : Ex := ⟨9, [], [], 0, [⟨7, [], [], 2, [liveX], 0⟩, ⟨1, [], [], 3, [], 0⟩], 0⟩
def liveA : Ln := ⟨-3, [⟨0, 2⟩]⟩
def liveC : Cn := ⟨1, ⟨3, [⟨0, 2⟩]⟩⟩
def liveD : Cn := ⟨1, ⟨2, [⟨0, 1⟩]⟩⟩
theorem addT_live : addT [⟨0, 2⟩] [] = some [⟨0, 2⟩] := by rw [addT_xn, addT]; rfl
theorem live_check : checkS liveE = 0 := by kernel_rfl
theorem live_type : typeS liveP liveE = (2, 0, 0) := by kernel_rfl
theorem live_value : valueS liveA [5] = (7, true) := by kernel_rfl
theorem live_tight : tightS liveC = (liveD, true) := by kernel_rfl
theorem live_same : sameS liveA liveA = true := by kernel_rfl
theorem live_yes : holdsS liveD [-2] = true := by kernel_rfl
theorem live_no : holdsS liveD [-1] = false := by kernel_rfl
theorem live_is : isB [⟨0, 2⟩] = true := by kernel_rfl
theorem live_not : isB [⟨0, 0⟩] = false := by kernel_rfl
theorem live_two : (Ex.mk 7 [] [] 2 [liveX] 0).sum liveP = (⟨0, [⟨0, 2⟩]⟩, true) := by kernel_rfl
theorem live_three : (Ex.mk 1 [] [] 3 [] 0).sum liveP = (⟨3, []⟩, true) := by kernel_rfl
theorem live_neg : scaleS ⟨3, []⟩ (-1) = (⟨-3, []⟩, true) := by kernel_rfl
theorem live_add : addL ⟨0, [⟨0, 2⟩]⟩ ⟨-3, []⟩ = (liveA, true) := add_yes (by kernel_rfl) (by kernel_rfl) (by kernel_rfl) addT_live (by decide)
theorem live_sum : liveE.sum liveP = (liveA, true) := by
  rw [Ex.sum_eq]
  show sumA 9 0 ((Ex.mk 7 [] [] 2 [liveX] 0).sum liveP) (some ((Ex.mk 1 [] [] 3 [] 0).sum liveP)) = _
  rw [live_two, live_three]
  show (if (scaleS ⟨3, []⟩ (-1)).2 = true then addL ⟨0, [⟨0, 2⟩]⟩ (scaleS ⟨3, []⟩ (-1)).1 else noLn) = _
  rw [live_neg]
  exact live_add
theorem live_of : linOfS liveP liveE = (liveA, true) := by unfold linOfS; rw [live_type]; exact live_sum
theorem liveA_ok : liveA.ok := ⟨by unfold R64; decide, fun t ht => by simp [liveA] at ht; subst ht; exact ⟨by unfold R64; decide, by unfold R64; decide⟩⟩
theorem liveC_ok : liveC.ok := ⟨by unfold R64; decide, by unfold R64; decide, fun t ht => by simp [liveC] at ht; subst ht; exact ⟨by unfold R64; decide, by unfold R64; decide⟩⟩
theorem liveD_ok : liveD.ok := ⟨by unfold R64; decide, by unfold R64; decide, fun t ht => by simp [liveD] at ht; subst ht; exact ⟨by unfold R64; decide, by unfold R64; decide⟩⟩
theorem live_pre : liveE.pre = [liveE, ⟨7, [], [], 2, [liveX], 0⟩, liveX, ⟨1, [], [], 3, [], 0⟩] := by kernel_rfl
theorem liveE_fits : liveE.fits := ⟨by rw [live_pre]; decide, fun y hy => by
  rw [live_pre] at hy
  simp at hy
  rcases hy with rfl | rfl | rfl | rfl <;> exact ⟨by decide, by decide, by decide⟩⟩
theorem liveE_nums : liveE.nums := fun y hy => by
  rw [live_pre] at hy
  simp at hy
  rcases hy with rfl | rfl | rfl | rfl <;> (unfold R64; decide)
theorem liveP_fits : liveP.fits := ⟨by decide, by decide⟩
theorem live_c : PFun Try.prog 11 [] [] (.d (.bool true)) [] := by
  refine fn_sem pok 104 0 Try.func11 (by kernel_rfl) rfl rfl rfl rfl ?_
  refine SWp.go pok (by kernel_rfl) ?_
  have h1 := linOf_c liveP liveE liveP_fits liveE_fits liveE_nums
  rw [live_of] at h1
  refine PFun.call h1 ?_
  have h2 := linValue_c liveA [5] liveA_ok (fun n hn => by simp at hn; subst hn; unfold R64; decide)
  rw [live_value] at h2
  refine PFun.call h2 ?_
  have h3 := linTight_c liveC liveC_ok
  rw [live_tight] at h3
  refine PFun.call h3 ?_
  have h4 := Same_c liveA liveA (by decide)
  rw [live_same] at h4
  refine PFun.call h4 ?_
  refine PIdx.map (l := [⟨0, 1⟩]) (f := Tm.e) (i := 0) (x := ⟨0, 1⟩) rfl ?_
  have h5 := linHolds_c liveD [-2] liveD_ok (fun n hn => by simp at hn; subst hn; unfold R64; decide)
  rw [live_yes] at h5
  refine PFun.call h5 ?_
  have h6 := linHolds_c liveD [-1] liveD_ok (fun n hn => by simp at hn; subst hn; unfold R64; decide)
  rw [live_no] at h6
  refine PFun.call h6 ?_
  have h7 := linIs_c liveA
  rw [show isB liveA.l = true from live_is] at h7
  refine PFun.call h7 ?_
  have h8 := linIs_c ⟨0, [⟨0, 0⟩]⟩
  rw [live_not] at h8
  refine PFun.call h8 ?_
  exact fin1 rfl
end Go.Proofs.Ytlafnhpmhflnaaa.Q

namespace Go.Proofs.Ytlafnhpmhflnaaa.Q
open Go.RowKit
/-- All that lies in a world is known for good. -/
def allG (w : World) : Imm := fun b o => w.cell? ⟨b, o, none⟩
def repDs (G : Imm) : List D → List Value → Prop
  | [], us => us = []
  | d :: ds, us => ∃ u us', us = u :: us' ∧ d.rep G u ∧ repDs G ds us'
theorem repDs_append {G : Imm} : ∀ {a b : List D} {us vs : List Value}, repDs G a us → repDs G b vs → repDs G (a ++ b) (us ++ vs)
  | [], b, us, vs, h, k => by have : us = [] := h; subst this; exact k
  | d :: a, b, us, vs, ⟨u, us', e, h1, h2⟩, k => ⟨u, us' ++ vs, by rw [e]; rfl, h1, repDs_append h2 k⟩
theorem repDs_get {G : Imm} : ∀ {r : List D} {us : List Value}, repDs G r us → ∀ (j : Nat) d, r[j]? = some d → ∃ u, us[j]? = some u ∧ d.rep G u
  | [], us, h, j, d, hd => by simp at hd
  | x :: r, us, ⟨u, us', e, h1, h2⟩, 0, d, hd => by simp at hd; subst hd; exact ⟨u, by rw [e]; rfl, h1⟩
  | x :: r, us, ⟨u, us', e, h1, h2⟩, j + 1, d, hd => by
    obtain ⟨v, k1, k2⟩ := repDs_get h2 j d (by simpa using hd)
    exact ⟨v, by rw [e]; simpa using k1, k2⟩
theorem repDs_len {G : Imm} : ∀ {r : List D} {us : List Value}, repDs G r us → r.length = us.length
  | [], us, h => by have : us = [] := h; subst this; rfl
  | x :: r, us, ⟨u, us', e, h1, h2⟩ => by rw [e]; simp [repDs_len h2]
theorem repDs_vs {G : Imm} {φ : Loc} : ∀ {r : List D} {us : List Value}, repDs G r us → repVs G φ (r.map V.d) us ∧ ∀ u ∈ us, u.oneCell' = true
  | [], us, h => by have : us = [] := h; subst this; exact ⟨rfl, by simp⟩
  | x :: r, us, ⟨u, us', e, h1, h2⟩ => by
    obtain ⟨k1, k2⟩ := repDs_vs (φ := φ) h2
    refine ⟨⟨u, us', e, h1, k1⟩, fun v hv => ?_⟩
    rw [e] at hv
    rcases List.mem_cons.1 hv with hv | hv
    · subst hv; exact D.rep_one h1
    · exact k2 v hv
/-- Whatever is read with so much fuel at a type is such data. -/
def RdD (P : Program) (fuel : Nat) (T : TypeId) (R : List D → Prop) : Prop :=
  ∀ (H : Type) (enc : TypeId × Value → H) (w : World) (cs : List Value) (y : DataW H × List MemPlace), DataW.trod enc P w 0 (fun _ => true) true fuel T cs = some y → ∃ r, R r ∧ repDs (allG w) r cs
theorem RdD.mono {P : Program} {fuel : Nat} {T : TypeId} {R R' : List D → Prop} (h : RdD P fuel T R) (k : ∀ r, R r → R' r) : RdD P fuel T R' := fun H enc w cs y hy => by
  obtain ⟨r, h1, h2⟩ := h H enc w cs y hy
  exact ⟨r, k r h1, h2⟩
theorem r64_wf {n : Int} (h : (Lit.int .i64 n).wf = true) : R64 n := by
  unfold R64
  simp [Lit.wf, IntKind.min, IntKind.max, IntKind.bits, IntKind.signed] at h
  omega
theorem rdD_i64 {P : Program} {T : TypeId} (hu : P.underlying T = some (.int .i64)) (fuel : Nat) : RdD P fuel T (fun r => ∃ n, R64 n ∧ r = [.int .i64 n]) := by
  intro H enc w cs y h
  cases fuel with
  | zero => simp [DataW.trod] at h
  | succ n =>
    unfold DataW.trod at h
    rw [hu] at h
    split at h <;> simp_all
    rename_i k k' m heq
    subst heq
    exact ⟨_, ⟨m, r64_wf h.1.2, rfl⟩, _, _, rfl, rfl, rfl⟩
theorem rdD_bool {P : Program} {T : TypeId} (hu : P.underlying T = some .bool) (fuel : Nat) : RdD P fuel T (fun r => ∃ b, r = [.bool b]) := by
  intro H enc w cs y h
  cases fuel with
  | zero => simp [DataW.trod] at h
  | succ n =>
    unfold DataW.trod at h
    rw [hu] at h
    split at h <;> simp_all
    rename_i _ b
    cases b
    · exact .inl ⟨_, _, rfl, rfl, rfl⟩
    · exact .inr ⟨_, _, rfl, rfl, rfl⟩
theorem rdD_str {P : Program} {T : TypeId} (hu : P.underlying T = some .string) (fuel : Nat) : RdD P fuel T (fun r => ∃ s : List UInt8, s.length ≤ maxLen ∧ r = [.str s]) := by
  intro H enc w cs y h
  cases fuel with
  | zero => simp [DataW.trod] at h
  | succ n =>
    unfold DataW.trod at h
    rw [hu] at h
    split at h <;> simp_all
    rename_i _ s
    exact ⟨_, ⟨s.data.toList, by rw [Array.length_toList]; exact h.1, rfl⟩, _, _, rfl, by simp [D.rep], rfl⟩
theorem cells_eachD {w : World} {a : Addr} {n : Nat} {cs : List Value} (h : w.cells? 0 a n = some cs) : cs.length = n ∧ ∀ (i : Nat) u, cs[i]? = some u → w.cell? (a.add i) = some u := by
  unfold World.cells? at h
  rw [if_pos (Nat.zero_le _)] at h
  have hl := mapM_some_length h
  rw [List.length_range] at hl
  refine ⟨hl, fun i u hi => ?_⟩
  have hlt := (List.getElem?_eq_some_iff.1 hi).1
  have := mapM_some_get h i i (by rw [List.getElem?_range (by omega)])
  rw [this, hi]
theorem spot_none {w : World} {a : Addr} {u : Value} (h : w.cell? a = some u) : a.spot = none := by
  unfold World.cell? at h
  split at h
  · split at h
    · cases h
    · rename_i h1; cases hs : a.spot with
      | none => rfl
      | some x => rw [hs] at h1; simp at h1
  · cases h
theorem rdD_slice {P : Program} {T e : TypeId} {R : List D → Prop} {sz : Nat} (hu : P.underlying T = some (.slice e)) (hc : P.cellsOf e = sz) (hsz : 0 < sz) (fuel : Nat) (hd : ∀ m, m < fuel → RdD P m e R) :
    RdD P fuel T (fun r => ∃ rows : List (List D), (∀ q ∈ rows, R q) ∧ rows.length ≤ maxLen ∧ r = [.sl rows]) := by
  intro H enc w cs y h
  rcases DataW.trod_slice hu h with ⟨rfl, _⟩ | ⟨a, len, cap, elems, rest, n, rfl, rfl, _, _, hlc, hl, hm, hel, _⟩
  · exact ⟨_, ⟨[], by simp, Nat.zero_le _, rfl⟩, _, _, rfl, ⟨none, 0, rfl, Nat.le_refl _, fun h => absurd rfl h⟩, rfl⟩
  · have step : ∀ i, i < len → ∃ r, R r ∧ ∃ cs, r.length = sz ∧ repDs (allG w) r cs ∧ cs.length = sz ∧ ∀ (j : Nat) u, cs[j]? = some u → w.cell? (a.add (i * sz + j)) = some u := by
      intro i hi
      have h1 := hel i hi
      rw [List.getElem?_eq_getElem (by omega), Option.bind_eq_some_iff] at h1
      obtain ⟨cs, hcs, ht⟩ := h1
      obtain ⟨r, hr, hx⟩ := hd n (Nat.lt_succ_self _) H enc w cs _ ht
      rw [hc] at hcs
      obtain ⟨hl1, hcell⟩ := cells_eachD hcs
      exact ⟨r, hr, cs, (repDs_len hx).trans hl1, hx, hl1, fun j u hj => by rw [← Go.Deep.add_add]; exact hcell j u hj⟩
    obtain ⟨f, hf⟩ := Go.Deep.choose_lt step
    have hmap : ∀ (m : Nat), m ≤ len → ∀ k, repRows (allG w) a.block (a.off + k * sz) sz (((List.range (len - k)).map fun i => f (i + k)).take m) := by
      intro m
      induction m with
      | zero => intro _ k; simp [repRows]
      | succ m ih =>
        intro hm k
        by_cases hk : k < len
        · have e : len - k = (len - (k + 1)) + 1 := by omega
          rw [e, List.range_succ_eq_map, List.map_cons, List.map_map, List.take_succ_cons]
          have ih' := ih (by omega) (k + 1)
          obtain ⟨hR, cs, l1, l2, l3, l4⟩ := hf (0 + k) (by omega)
          refine ⟨l1, repRow_of fun j d hj => ?_, ?_⟩
          · obtain ⟨u, u1, u2⟩ := repDs_get l2 j d hj
            have hcell := l4 j u u1
            refine ⟨u, ?_, u2⟩
            have hs := spot_none hcell
            show w.cell? ⟨a.block, a.off + k * sz + j, none⟩ = some u
            rw [Nat.zero_add] at hcell
            unfold Addr.add at hcell
            split at hcell
            · rename_i h0
              have : a.spot = none := by rw [Nat.zero_add] at hs; unfold Addr.add at hs; rw [if_pos h0] at hs; exact hs
              have ea : a = ⟨a.block, a.off, none⟩ := by cases a; simp at this; subst this; rfl
              rw [ea] at hcell
              rw [show a.off + k * sz + j = a.off by omega]
              exact hcell
            · rw [show a.off + k * sz + j = a.off + (k * sz + j) by omega]; exact hcell
          · have e2 : (fun i => f (i + k)) ∘ Nat.succ = fun i => f (i + (k + 1)) := by funext i; simp only [Function.comp]; congr 1; omega
            rw [e2, show a.off + k * sz + sz = a.off + (k + 1) * sz by rw [Nat.add_mul]; omega]
            exact ih'
        · rw [show len - k = 0 by omega]; simp [repRows]
    refine ⟨_, ⟨(List.range len).map f, fun q hq => ?_, by simp; omega, rfl⟩, _, _, rfl, ⟨some a, cap, by simp, by simpa using hlc, fun hn => ⟨a.block, a.off, sz, ?_, ?_⟩⟩, rfl⟩
    · obtain ⟨i, hi, rfl⟩ := List.mem_map.1 hq
      exact (hf i (List.mem_range.1 hi)).1
    · have hpos : 0 < len := by
        rcases Nat.eq_zero_or_pos len with h0 | h0
        · subst h0; exact absurd rfl hn
        · exact h0
      obtain ⟨hR, cs, l1, l2, l3, l4⟩ := hf 0 hpos
      have hlt : 0 < cs.length := by omega
      have := spot_none (l4 0 cs[0] (List.getElem?_eq_getElem hlt))
      simp [Addr.add] at this
      cases a; simp at this; subst this; rfl
    · have := hmap len (Nat.le_refl _) 0
      rw [List.take_of_length_le (by simp)] at this
      simpa using this
/-- A struct's fields, from a place on. -/
def FRD (P : Program) (fuel : Nat) (off : Nat) (fs : List (TypeId × Nat)) (sz : Nat) (R : List D → Prop) : Prop :=
  ∀ (H : Type) (enc : TypeId × Value → H) (w : World) (cs : List Value), (∀ f ∈ fs, ∃ y, DataW.trod enc P w 0 (fun _ => true) true fuel f.1 ((cs.drop f.2).take (P.cellsOf f.1)) = some y) → cs.length = off + sz → ∃ r, R r ∧ repDs (allG w) r (cs.drop off)
theorem frD_last {P : Program} {fuel off : Nat} {t : TypeId} {sz : Nat} {R : List D → Prop} (hc : P.cellsOf t = sz) (hd : RdD P fuel t R) : FRD P fuel off [(t, off)] sz R := by
  intro H enc w cs h hl
  obtain ⟨y, hy⟩ := h _ (List.mem_singleton.2 rfl)
  have : (cs.drop off).take (P.cellsOf t) = cs.drop off := List.take_of_length_le (by rw [List.length_drop, hc]; omega)
  simp only [this] at hy
  exact hd H enc w _ _ hy
theorem frD_cons {P : Program} {fuel off : Nat} {t : TypeId} {fs : List (TypeId × Nat)} {sa sb : Nat} {A B : List D → Prop} (hc : P.cellsOf t = sa) (hd : RdD P fuel t A) (h : FRD P fuel (off + sa) fs sb B) : FRD P fuel off ((t, off) :: fs) (sa + sb) (fun r => ∃ a b, A a ∧ B b ∧ r = a ++ b) := by
  intro H enc w cs hf hl
  obtain ⟨y, hy⟩ := hf _ List.mem_cons_self
  simp only [hc] at hy
  obtain ⟨x1, h1, k1⟩ := hd H enc w _ _ hy
  obtain ⟨x2, h2, k2⟩ := h H enc w cs (fun f hm => hf f (List.mem_cons_of_mem _ hm)) (by omega)
  refine ⟨x1 ++ x2, ⟨x1, x2, h1, h2, rfl⟩, ?_⟩
  have e : cs.drop off = (cs.drop off).take sa ++ cs.drop (off + sa) := by
    rw [← List.drop_drop]; exact (List.take_append_drop _ _).symm
  rw [e]
  exact repDs_append k1 k2
def structOfD (P : Program) (T : TypeId) : Option (List (TypeId × Nat)) :=
  match P.underlying T with
  | some (.struct fs) => some (fs.toList.map fun f => (f.type, f.offset))
  | _ => none
theorem rdD_struct {P : Program} {T : TypeId} {fs : List (TypeId × Nat)} {sz : Nat} {R : List D → Prop} (hu : structOfD P T = some fs) (hc : P.cellsOf T = sz) (fuel : Nat) (h : ∀ m, m < fuel → FRD P m 0 fs sz R) : RdD P fuel T R := by
  intro H enc w cs y ht
  unfold structOfD at hu
  split at hu
  · rename_i gs hs
    obtain ⟨xs, n, rfl, _, hl, hxl, hx⟩ := DataW.trod_struct hs ht
    injection hu with hu
    subst hu
    obtain ⟨x, hk, hk2⟩ := h n (Nat.lt_succ_self _) H enc w cs (by
      intro f hf
      obtain ⟨g, hg, rfl⟩ := List.mem_map.1 hf
      obtain ⟨i, hi, rfl⟩ := List.getElem_of_mem hg
      have h1 := hx i gs[i] (by simp at hi; simp [hi])
      have hi2 : i < xs.length := by simp at hi; omega
      rw [List.getElem?_eq_getElem hi2] at h1
      exact ⟨_, by simpa using h1⟩) (by rw [hl, hc]; simp)
    exact ⟨x, hk, by simpa using hk2⟩
  · cases hu
/-- Rows that are each some one's are a list's. -/
theorem rows_map {α : Type} {f : α → List D} {p : α → Prop} : ∀ {rows : List (List D)}, (∀ q ∈ rows, ∃ x, p x ∧ q = f x) → ∃ l : List α, rows = l.map f ∧ ∀ x ∈ l, p x
  | [], _ => ⟨[], rfl, by simp⟩
  | q :: rows, h => by
    obtain ⟨x, h1, h2⟩ := h q List.mem_cons_self
    obtain ⟨l, k1, k2⟩ := rows_map (f := f) (p := p) (rows := rows) fun q' hq => h q' (List.mem_cons_of_mem _ hq)
    refine ⟨x :: l, by rw [h2, k1]; rfl, fun y hy => ?_⟩
    rcases List.mem_cons.1 hy with e | e
    · subst e; exact h1
    · exact k2 y e
end Go.Proofs.Ytlafnhpmhflnaaa.Q

namespace Go.Proofs.Ytlafnhpmhflnaaa.Q
open Go.RowKit
theorem rd_int (fuel : Nat) : RdD Try.prog fuel 3 (fun r => ∃ n, R64 n ∧ r = [.int .i64 n]) := rdD_i64 (by kernel_rfl) fuel
theorem rd_int64 (fuel : Nat) : RdD Try.prog fuel 2 (fun r => ∃ n, R64 n ∧ r = [.int .i64 n]) := rdD_i64 (by kernel_rfl) fuel
theorem rd_Tm (fuel : Nat) : RdD Try.prog fuel 71 (fun r => ∃ t : Tm, t.ok ∧ r = t.e) :=
  (rdD_struct (fs := [(3, 0), (2, 1)]) (by kernel_rfl) (sz := 1 + 1) (by kernel_rfl) fuel fun m _ => frD_cons (by kernel_rfl) (rd_int m) (frD_last (by kernel_rfl) (rd_int64 m))).mono
    fun r ⟨a, b, ⟨x, h1, e1⟩, ⟨y, h2, e2⟩, e⟩ => ⟨⟨x, y⟩, ⟨h1, h2⟩, by rw [e, e1, e2]; rfl⟩
theorem rd_Tms (fuel : Nat) : RdD Try.prog fuel 32 (fun r => ∃ l : List Tm, (∀ t ∈ l, t.ok) ∧ r = [.sl (l.map Tm.e)]) :=
  (rdD_slice (sz := 2) (e := 71) (by kernel_rfl) (by kernel_rfl) (by decide) fuel fun m _ => rd_Tm m).mono fun r ⟨rows, h1, h2, e⟩ => by
    obtain ⟨l, rfl, h3⟩ := rows_map h1
    exact ⟨l, h3, e⟩
theorem rd_Ln (fuel : Nat) : RdD Try.prog fuel 34 (fun r => ∃ x : Ln, x.ok ∧ r = [.int .i64 x.k, .sl (x.l.map Tm.e)]) :=
  (rdD_struct (fs := [(2, 0), (32, 1)]) (by kernel_rfl) (sz := 1 + 1) (by kernel_rfl) fuel fun m _ => frD_cons (by kernel_rfl) (rd_int64 m) (frD_last (by kernel_rfl) (rd_Tms m))).mono
    fun r ⟨a, b, ⟨x, h1, e1⟩, ⟨y, h2, e2⟩, e⟩ => ⟨⟨x, y⟩, ⟨h1, h2⟩, by rw [e, e1, e2]; rfl⟩
theorem rd_Cn (fuel : Nat) : RdD Try.prog fuel 40 (fun r => ∃ x : Cn, x.ok ∧ r = [.int .i64 x.rel, .int .i64 x.s.k, .sl (x.s.l.map Tm.e)]) :=
  (rdD_struct (fs := [(3, 0), (34, 1)]) (by kernel_rfl) (sz := 1 + 2) (by kernel_rfl) fuel fun m _ => frD_cons (by kernel_rfl) (rd_int m) (frD_last (by kernel_rfl) (rd_Ln m))).mono
    fun r ⟨a, b, ⟨x, h1, e1⟩, ⟨y, h2, e2⟩, e⟩ => ⟨⟨x, y⟩, ⟨h1, h2⟩, by rw [e, e1, e2]; rfl⟩
theorem rd_ints (fuel : Nat) : RdD Try.prog fuel 41 (fun r => ∃ l : List Int, I64 l ∧ r = [.sl (l.map ic)]) :=
  (rdD_slice (sz := 1) (e := 2) (by kernel_rfl) (by kernel_rfl) (by decide) fuel fun m _ => rd_int64 m).mono fun r ⟨rows, h1, h2, e⟩ => by
    obtain ⟨l, rfl, h3⟩ := rows_map (f := ic) (p := R64) h1
    exact ⟨l, h3, e⟩
end Go.Proofs.Ytlafnhpmhflnaaa.Q

namespace Go.Proofs.Ytlafnhpmhflnaaa.Q
open Go.RowKit
/-- Nothing is called back. -/
abbrev ambD : Amb where
  l := 0
  J := fun _ _ _ _ => False
  ok := fun _ _ => False
  go := fun _ => true
  lt := fun h => h.elim
  stable := fun h => h.elim
  yield := fun h => h.elim
theorem ambD_sit (W : World) : @Sit ambD (allG W) W (fun _ _ => none) (hp []) :=
  @Sit.mk ambD _ _ _ _ (fun _ _ _ h => h) (fun i ob h => by cases h) (fun i j ob ob' b _ h => by cases h) (fun _ _ _ => rfl)
theorem goes_below {G G' : Imm} {W W' : World} {φ φ' : Loc} {H' : Hp} (h : Goes G W φ (hp []) G' W' φ' H') : Below W.heap.size W W' :=
  ⟨h.os, h.tape, h.output, h.size, fun k hk => (h.block k hk (fun ⟨i, ob, hi, _⟩ => by cases hi)).1⟩
theorem okWide_agg {P : Program} {W : World} {base : Nat} {T : TypeId} {v : Value} {fs : List (TypeId × Nat)} (hu : structOfD P T = some fs) (h : Value.okWide P W .any base T v) : ∃ cs : List Value, v = .agg cs.toArray := by
  unfold structOfD at hu
  split at hu
  · rename_i gs hs
    unfold Value.okWide at h
    rw [hs] at h
    obtain ⟨cs, rfl, _⟩ := h
    exact ⟨cs.toList, by simp⟩
  · cases hu
theorem read_agg {P : Program} {W : World} {base : Nat} {T : TypeId} {v : Value} {fs : List (TypeId × Nat)} {R : List D → Prop} {H : Type} {enc : TypeId × Value → H} {d : DataW H} {p : List MemPlace} (hu : structOfD P T = some fs) (hR : ∀ fuel, RdD P fuel T R) (hv : Value.okWide P W .any base T v)
    (h : DataW.Trod enc P W 0 (fun _ => true) true T v d p) : ∃ r, R r ∧ (V.agg (r.map V.d)).rep (allG W) (fun _ _ => none) v := by
  obtain ⟨cs, rfl⟩ := okWide_agg hu hv
  obtain ⟨fuel, hf⟩ := h
  simp only [Value.cells] at hf
  obtain ⟨r, h1, h2⟩ := hR fuel H enc W _ _ hf
  obtain ⟨k1, k2⟩ := repDs_vs (φ := fun _ _ => none) h2
  exact ⟨r, h1, cs, rfl, by simpa using k1, by simpa using k2⟩
theorem read_one {P : Program} {W : World} {T : TypeId} {v : Value} {R : List D → Prop} {H : Type} {enc : TypeId × Value → H} {d : DataW H} {p : List MemPlace} (hR : ∀ fuel, RdD P fuel T R) (hv : v.cells = #[v])
    (h : DataW.Trod enc P W 0 (fun _ => true) true T v d p) : ∃ r, R r ∧ repDs (allG W) r [v] := by
  obtain ⟨fuel, hf⟩ := h
  rw [hv] at hf
  exact hR fuel H enc W _ _ hf
section
variable {H : Type} {enc : TypeId × Value → H} {d : DataW H} {p : List MemPlace} {base : Nat}
theorem read_Cn (W : World) (v : Value) (hv : Value.okWide Try.prog W .any base 40 v) (h : DataW.Trod enc Try.prog W 0 (fun _ => true) true 40 v d p) : ∃ x : Cn, x.ok ∧ x.v.rep (allG W) (fun _ _ => none) v := by
  obtain ⟨r, ⟨x, hx, rfl⟩, hr⟩ := read_agg (fs := [(3, 0), (34, 1)]) (by kernel_rfl) rd_Cn hv h
  exact ⟨x, hx, hr⟩
theorem read_Ln (W : World) (v : Value) (hv : Value.okWide Try.prog W .any base 34 v) (h : DataW.Trod enc Try.prog W 0 (fun _ => true) true 34 v d p) : ∃ x : Ln, x.ok ∧ x.v.rep (allG W) (fun _ _ => none) v := by
  obtain ⟨r, ⟨x, hx, rfl⟩, hr⟩ := read_agg (fs := [(2, 0), (32, 1)]) (by kernel_rfl) rd_Ln hv h
  exact ⟨x, hx, hr⟩
theorem read_ints (W : World) (v : Value) (hv : Value.okWide Try.prog W .any base 41 v) (h : DataW.Trod enc Try.prog W 0 (fun _ => true) true 41 v d p) : ∃ x : List Int, I64 x ∧ (ils x).rep (allG W) (fun _ _ => none) v := by
  obtain ⟨a, l, c, rfl⟩ := WideShapes.okWide_slice (e := 2) (by kernel_rfl) hv
  obtain ⟨r, ⟨x, hx, rfl⟩, u, us, e, h1, _⟩ := read_one rd_ints rfl h
  injection e with e1 e2
  exact ⟨x, hx, by rw [e1]; exact h1⟩
theorem read_int (W : World) (v : Value) (hv : Value.okWide Try.prog W .any base 3 v) (h : DataW.Trod enc Try.prog W 0 (fun _ => true) true 3 v d p) : ∃ x : Int, R64 x ∧ (iv x).rep (allG W) (fun _ _ => none) v := by
  obtain ⟨n, rfl⟩ := WideShapes.okWide_int (k := .i64) (by kernel_rfl) hv
  obtain ⟨r, ⟨x, hx, rfl⟩, u, us, e, h1, _⟩ := read_one rd_int rfl h
  injection e with e1 e2
  exact ⟨x, hx, by rw [e1]; exact h1⟩
theorem read_int64 (W : World) (v : Value) (hv : Value.okWide Try.prog W .any base 2 v) (h : DataW.Trod enc Try.prog W 0 (fun _ => true) true 2 v d p) : ∃ x : Int, R64 x ∧ (iv x).rep (allG W) (fun _ _ => none) v := by
  obtain ⟨n, rfl⟩ := WideShapes.okWide_int (k := .i64) (by kernel_rfl) hv
  obtain ⟨r, ⟨x, hx, rfl⟩, u, us, e, h1, _⟩ := read_one rd_int64 rfl h
  injection e with e1 e2
  exact ⟨x, hx, by rw [e1]; exact h1⟩
end
end Go.Proofs.Ytlafnhpmhflnaaa.Q
