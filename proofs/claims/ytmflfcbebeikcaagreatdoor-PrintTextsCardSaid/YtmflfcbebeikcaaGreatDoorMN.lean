/- The parser without fuel; derivations, and that what is derived is parsed; the scanner seen from what is left. No condition. -/
import Derived.Test.YtmflfcbebeikcaaGreatDoorMK
import Derived.Test.YtmflfcbebeikcaaGreatDoorML
set_option linter.unusedVariables false
set_option linter.unusedSectionVars false
set_option linter.unnecessarySimpa false
set_option linter.unusedSimpArgs false
set_option maxRecDepth 100000
set_option maxHeartbeats 4000000
namespace Go.Proofs.YtmflfcbebeikcaaGreatDoor.Q
open Go.RowKit
variable [Amb]

theorem Rd.ok.entM {r : Rd} {s : Str} (h : r.ok) (hi : r.is s = true) : r.enter.ok ∧ r.enter.m < r.m := by
  obtain ⟨c1, c2⟩ := Rd.is_not5 hi
  obtain ⟨g1, g2, g3⟩ := h.enter c1 c2
  exact ⟨g1, g2⟩
theorem expr_fuel : ∀ N : Nat, (∀ f g lv r, f ≤ N → g ≤ N → Rd.ok r → lv ≤ 4 → 12 * r.m + 2 * (4 - lv) + 2 ≤ f → 12 * r.m + 2 * (4 - lv) + 2 ≤ g → binF f lv r = binF g lv r) ∧
    (∀ f g lv e r, f ≤ N → g ≤ N → Rd.ok r → lv ≤ 3 → 12 * r.m + 1 ≤ f → 12 * r.m + 1 ≤ g → loopF f lv e r = loopF g lv e r) ∧
    (∀ f g r, f ≤ N → g ≤ N → Rd.ok r → 12 * r.m + 1 ≤ f → 12 * r.m + 1 ≤ g → termF f r = termF g r) := by
  intro N
  induction N with
  | zero => exact ⟨fun f g lv r _ _ _ _ h1 h2 => by omega, fun f g lv e r _ _ _ _ h1 h2 => by omega, fun f g r _ _ _ h1 h2 => by omega⟩
  | succ N ih =>
    obtain ⟨iB, iL, iT⟩ := ih
    refine ⟨fun f g lv r hf hg h hlv h1 h2 => ?_, fun f g lv e r hf hg h hlv h1 h2 => ?_, fun f g r hf hg h h1 h2 => ?_⟩
    · cases f with
      | zero => omega
      | succ f =>
      cases g with
      | zero => omega
      | succ g =>
      rw [binF, binF]
      by_cases h4 : lv = 4
      · rw [if_pos h4, if_pos h4]
        exact iT f g r (by omega) (by omega) h (by omega) (by omega)
      rw [if_neg h4, if_neg h4]
      by_cases hn : lv = 2 ∧ r.is [33] = true
      · rw [if_pos hn, if_pos hn]
        obtain ⟨g1, g2⟩ := h.entM hn.2
        rw [iB f g 2 r.enter (by omega) (by omega) g1 (by omega) (by omega) (by omega)]
      rw [if_neg hn, if_neg hn]
      have ht := (expr_to g).1 (lv + 1) r h
      have hm := ht.m
      rw [iB f g (lv + 1) r (by omega) (by omega) h (by omega) (by omega) (by omega)]
      exact iL f g lv _ _ (by omega) (by omega) ht.ok (by omega) (by omega) (by omega)
    · cases f with
      | zero => omega
      | succ f =>
      cases g with
      | zero => omega
      | succ g =>
      rw [loopF, loopF]
      have ho := h.oper (lvls.getD lv ([], false)).1
      by_cases hc : (r.oper (lvls.getD lv ([], false)).1).1.2 = true
      · rw [if_pos hc, if_pos hc]
        have hlt := ho.2 hc
        have ht := (expr_to g).1 (lv + 1) _ ho.1.ok
        have hm := ht.m
        rw [iB f g (lv + 1) (r.oper (lvls.getD lv ([], false)).1).2 (by omega) (by omega) ho.1.ok (by omega) (by omega) (by omega)]
        split
        · rfl
        · exact iL f g lv _ _ (by omega) (by omega) ht.ok (by omega) (by omega) (by omega)
      · rw [if_neg hc, if_neg hc]
    · cases f with
      | zero => omega
      | succ f =>
      cases g with
      | zero => omega
      | succ g =>
      rw [termF, termF]
      by_cases hk : r.next.kind = 2
      · rw [if_pos hk, if_pos hk]
        by_cases hs : r.take.is [42] = true
        · rw [if_pos hs, if_pos hs]
          obtain ⟨g1, g2⟩ := h.take.ok.entM hs
          have := h.take.m
          rw [iT f g r.take.enter (by omega) (by omega) g1 (by omega) (by omega)]
        · rw [if_neg hs, if_neg hs]
      rw [if_neg hk, if_neg hk]
      by_cases hk : r.next.kind = 1
      · rw [if_pos hk, if_pos hk]
      rw [if_neg hk, if_neg hk]
      by_cases hs : r.is [45] = true
      · rw [if_pos hs, if_pos hs]
        obtain ⟨g1, g2⟩ := h.entM hs
        rw [iT f g r.enter (by omega) (by omega) g1 (by omega) (by omega)]
      rw [if_neg hs, if_neg hs]
      by_cases hs : r.is [40] = true
      · rw [if_pos hs, if_pos hs]
        obtain ⟨g1, g2⟩ := h.entM hs
        rw [iB f g 0 r.enter (by omega) (by omega) g1 (by omega) (by omega) (by omega)]
      rw [if_neg hs, if_neg hs]
/-- The parser's expressions of a level; what joins more; what no operator joins. -/
def Rd.bin (lv : Nat) (r : Rd) : Ex × Rd := binF (12 * r.m + 2 * (4 - lv) + 2) lv r
def Rd.loop (lv : Nat) (e : Ex) (r : Rd) : Ex × Rd := loopF (12 * r.m + 1) lv e r
def Rd.term (r : Rd) : Ex × Rd := termF (12 * r.m + 1) r
abbrev lvl (lv : Nat) : List (Str × Int) := (lvls.getD lv ([], false)).1
theorem Rd.expr_bin (r : Rd) : r.expr = r.bin 0 := rfl
theorem Rd.ok.bin {r : Rd} (h : r.ok) (lv : Nat) : r.to (r.bin lv).2 := (expr_to _).1 lv r h
theorem Rd.ok.loop {r : Rd} (h : r.ok) (lv : Nat) (e : Ex) : r.to (r.loop lv e).2 := (expr_to _).2.1 lv e r h
theorem Rd.ok.term {r : Rd} (h : r.ok) : r.to r.term.2 := (expr_to _).2.2 r h
theorem bin_of {f lv : Nat} {r : Rd} (h : r.ok) (hlv : lv ≤ 4) (hf : 12 * r.m + 2 * (4 - lv) + 2 ≤ f) : binF f lv r = r.bin lv :=
  (expr_fuel (f + (12 * r.m + 2 * (4 - lv) + 2))).1 f _ lv r (by omega) (by omega) h hlv hf (Nat.le_refl _)
theorem loop_of {f lv : Nat} {e : Ex} {r : Rd} (h : r.ok) (hlv : lv ≤ 3) (hf : 12 * r.m + 1 ≤ f) : loopF f lv e r = r.loop lv e :=
  (expr_fuel (f + (12 * r.m + 1))).2.1 f _ lv e r (by omega) (by omega) h hlv hf (Nat.le_refl _)
theorem term_of {f : Nat} {r : Rd} (h : r.ok) (hf : 12 * r.m + 1 ≤ f) : termF f r = r.term :=
  (expr_fuel (f + (12 * r.m + 1))).2.2 f _ r (by omega) (by omega) h hf (Nat.le_refl _)
theorem Rd.bin4 {r : Rd} (h : r.ok) : r.bin 4 = r.term := by
  unfold Rd.bin
  rw [show 12 * r.m + 2 * (4 - 4) + 2 = (12 * r.m + 1) + 1 by omega, binF, if_pos rfl]
  exact term_of h (by omega)
theorem Rd.binNot {r : Rd} (h : r.ok) (hi : r.is [33] = true) : r.bin 2 = (⟨5, [], [], 0, [(r.enter.bin 2).1], r.next.pl⟩, (r.enter.bin 2).2.leave) := by
  obtain ⟨g1, g2⟩ := h.entM hi
  unfold Rd.bin
  rw [show 12 * r.m + 2 * (4 - 2) + 2 = (12 * r.m + 5) + 1 by omega, binF, if_neg (by decide), if_pos ⟨rfl, hi⟩, bin_of g1 (by decide) (by omega)]
  rfl
theorem Rd.bin_eq {r : Rd} (h : r.ok) {lv : Nat} (hlv : lv ≤ 3) (hi : ¬ (lv = 2 ∧ r.is [33] = true)) : r.bin lv = (r.bin (lv + 1)).2.loop lv (r.bin (lv + 1)).1 := by
  have ht := h.bin (lv + 1)
  have hm := ht.m
  rw [show r.bin lv = binF (12 * r.m + 2 * (4 - lv) + 2) lv r from rfl, show 12 * r.m + 2 * (4 - lv) + 2 = (12 * r.m + 2 * (4 - lv) + 1) + 1 by omega, binF, if_neg (by omega), if_neg hi, bin_of h (by omega) (by omega)]
  exact loop_of ht.ok hlv (by omega)
theorem Rd.loop_eq {r : Rd} (h : r.ok) {lv : Nat} (hlv : lv ≤ 3) (e : Ex) : r.loop lv e =
    if (r.oper (lvl lv)).1.2 = true then
      (if (lvls.getD lv ([], false)).2 = true then (⟨(r.oper (lvl lv)).1.1, [], [], 0, [e, ((r.oper (lvl lv)).2.bin (lv + 1)).1], e.pl⟩, ((r.oper (lvl lv)).2.bin (lv + 1)).2)
       else ((r.oper (lvl lv)).2.bin (lv + 1)).2.loop lv ⟨(r.oper (lvl lv)).1.1, [], [], 0, [e, ((r.oper (lvl lv)).2.bin (lv + 1)).1], e.pl⟩)
    else (e, (r.oper (lvl lv)).2) := by
  have ho := h.oper (lvl lv)
  rw [show r.loop lv e = loopF (12 * r.m + 1) lv e r from rfl, loopF]
  by_cases hc : (r.oper (lvl lv)).1.2 = true
  · rw [if_pos hc, if_pos hc]
    have hlt := ho.2 hc
    have ht := ho.1.ok.bin (lv + 1)
    have hm := ht.m
    rw [bin_of ho.1.ok (by omega) (by omega)]
    split
    · rfl
    · exact loop_of ht.ok hlv (by omega)
  · rw [if_neg hc, if_neg hc]
theorem Rd.term_eq {r : Rd} (h : r.ok) : r.term =
    if r.next.kind = 2 then
      (if r.take.is [42] = true then (⟨7, [], [], r.next.n, [r.take.enter.term.1], r.next.pl⟩, r.take.enter.term.2.leave) else (⟨1, [], [], r.next.n, [], r.next.pl⟩, r.take))
    else if r.next.kind = 1 then (⟨4, r.pair.1.1, r.pair.1.2, 0, [], r.next.pl⟩, r.pair.2)
    else if r.is [45] = true then (⟨6, [], [], 0, [r.enter.term.1], r.next.pl⟩, r.enter.term.2.leave)
    else if r.is [40] = true then ((r.enter.bin 0).1, ((r.enter.bin 0).2.must [41]).leave)
    else if r.is [116, 114, 117, 101] = true then (⟨2, [], [], 0, [], r.next.pl⟩, r.take)
    else if r.is [102, 97, 108, 115, 101] = true then (⟨3, [], [], 0, [], r.next.pl⟩, r.take)
    else (ex0, r.fail 40) := by
  rw [show r.term = termF (12 * r.m + 1) r from rfl, termF]
  by_cases hk : r.next.kind = 2
  · rw [if_pos hk, if_pos hk]
    by_cases hs : r.take.is [42] = true
    · rw [if_pos hs, if_pos hs]
      obtain ⟨g1, g2⟩ := h.take.ok.entM hs
      have := h.take.m
      rw [term_of g1 (by omega)]
    · rw [if_neg hs, if_neg hs]
  rw [if_neg hk, if_neg hk]
  by_cases hk : r.next.kind = 1
  · rw [if_pos hk, if_pos hk]
  rw [if_neg hk, if_neg hk]
  by_cases hs : r.is [45] = true
  · rw [if_pos hs, if_pos hs]
    obtain ⟨g1, g2⟩ := h.entM hs
    rw [term_of g1 (by omega)]
  rw [if_neg hs, if_neg hs]
  by_cases hs : r.is [40] = true
  · rw [if_pos hs, if_pos hs]
    obtain ⟨g1, g2⟩ := h.entM hs
    rw [bin_of g1 (by decide) (by omega)]
  rw [if_neg hs, if_neg hs]
end Go.Proofs.YtmflfcbebeikcaaGreatDoor.Q

namespace Go.Proofs.YtmflfcbebeikcaaGreatDoor.Q
open Go.RowKit
variable [Amb]

theorem stmt_fuel : ∀ N : Nat, (∀ f g r, f ≤ N → g ≤ N → Rd.ok r → 8 * r.m + 1 ≤ f → 8 * r.m + 1 ≤ g → stmtF f r = stmtF g r) ∧
    (∀ f g k pl r, f ≤ N → g ≤ N → Rd.ok r → 8 * r.m + 5 ≤ f → 8 * r.m + 5 ≤ g → compF f k pl r = compF g k pl r) ∧
    (∀ f g l r, f ≤ N → g ≤ N → Rd.ok r → 8 * r.m + 4 ≤ f → 8 * r.m + 4 ≤ g → orF f l r = orF g l r) ∧
    (∀ f g r, f ≤ N → g ≤ N → Rd.ok r → 8 * r.m + 3 ≤ f → 8 * r.m + 3 ≤ g → blockF f r = blockF g r) ∧
    (∀ f g l r, f ≤ N → g ≤ N → Rd.ok r → 8 * r.m + 2 ≤ f → 8 * r.m + 2 ≤ g → stmtsF f l r = stmtsF g l r) := by
  intro N
  induction N with
  | zero => exact ⟨fun f g r _ _ _ h1 h2 => by omega, fun f g k pl r _ _ _ h1 h2 => by omega, fun f g l r _ _ _ h1 h2 => by omega, fun f g r _ _ _ h1 h2 => by omega, fun f g l r _ _ _ h1 h2 => by omega⟩
  | succ N ih =>
    obtain ⟨iS, iC, iO, iB, iL⟩ := ih
    refine ⟨fun f g r hf hg h h1 h2 => ?_, fun f g k pl r hf hg h h1 h2 => ?_, fun f g l r hf hg h h1 h2 => ?_, fun f g r hf hg h h1 h2 => ?_, fun f g l r hf hg h h1 h2 => ?_⟩
    · cases f with
      | zero => omega
      | succ f =>
      cases g with
      | zero => omega
      | succ g =>
      rw [stmtF, stmtF]
      by_cases hk : r.next.kind = 1
      · rw [if_pos hk, if_pos hk]
      rw [if_neg hk, if_neg hk]
      by_cases hk3 : ¬ r.next.kind = 3 ∨ kindOf r.next.text = 0
      · rw [if_pos hk3, if_pos hk3]
      rw [if_neg hk3, if_neg hk3]
      have h3 : r.next.kind = 3 := Classical.byContradiction fun e => hk3 (.inl e)
      obtain ⟨c1, c2⟩ := Rd.next_code (by decide) h3
      obtain ⟨t1, t2⟩ := h.takes c1 (by rw [c2]; decide)
      by_cases hb : 3 ≤ kindOf r.next.text ∧ kindOf r.next.text ≤ 7
      · rw [if_pos hb, if_pos hb]
        exact iC f g _ _ r.take (by omega) (by omega) h.take.ok (by omega) (by omega)
      · rw [if_neg hb, if_neg hb]
    · cases f with
      | zero => omega
      | succ f =>
      cases g with
      | zero => omega
      | succ g =>
      have hh := h.head k
      have hm := hh.m
      have hb : blockF f (r.head k).2 = blockF g (r.head k).2 := iB f g _ (by omega) (by omega) hh.ok (by omega) (by omega)
      have ht := hh.trans ((stmt_to g).2.2.2.1 _ hh.ok)
      have htm := ht.m
      rw [compF, compF, hb]
      have hk := ht.ok.take
      have hkm := hk.m
      rw [iB f g _ (by omega) (by omega) hk.ok (by omega) (by omega), iO f g _ _ (by omega) (by omega) ht.ok (by omega) (by omega)]
    · cases f with
      | zero => omega
      | succ f =>
      cases g with
      | zero => omega
      | succ g =>
      rw [orF, orF]
      by_cases hi : r.is [111, 114] = true
      · rw [if_pos hi, if_pos hi]
        obtain ⟨t1, t2⟩ : r.to (r.room l.length 8).take ∧ (r.room l.length 8).take.m < r.m := by
          have h1 := h.room (n := l.length) (most := 8)
          refine ⟨h1.trans h1.ok.take, ?_⟩
          obtain ⟨d1, d2⟩ := Rd.is_not5 hi
          unfold Rd.room
          by_cases hm : (l.length : Int) ≥ 8
          · rw [if_pos hm]
            have h1 := Rd.fail_m d1 h (e := 6) (by decide)
            have h2 := (h.fail (e := 6) (by decide)).ok.take.m
            omega
          · rw [if_neg hm]; exact (h.isTake hi).1
        rw [iB f g _ (by omega) (by omega) t1.ok (by omega) (by omega)]
        have ht := (stmt_to g).2.2.2.1 _ t1.ok
        have htm := ht.m
        exact iO f g _ _ (by omega) (by omega) ht.ok (by omega) (by omega)
      · rw [if_neg hi, if_neg hi]
    · cases f with
      | zero => omega
      | succ f =>
      cases g with
      | zero => omega
      | succ g =>
      rw [blockF, blockF]
      by_cases hi : r.is [123] = true
      · rw [if_pos hi, if_pos hi]
        obtain ⟨g1, g2⟩ := h.entM hi
        rw [iL f g [] r.enter (by omega) (by omega) g1 (by omega) (by omega)]
      · rw [if_neg hi, if_neg hi]
    · cases f with
      | zero => omega
      | succ f =>
      cases g with
      | zero => omega
      | succ g =>
      rw [stmtsF, stmtsF]
      by_cases hi : r.code = 0 ∧ ¬ r.is [125] = true
      · rw [if_pos hi, if_pos hi]
        rw [iS f g r (by omega) (by omega) h (by omega) (by omega)]
        cases g with
        | zero => omega
        | succ g =>
          have h3 := stmt_lt g r h hi.1
          have h4 := (stmt_to (g + 1)).1 r h
          exact iL f (g + 1) _ _ (by omega) (by omega) h4.ok (by omega) (by omega)
      · rw [if_neg hi, if_neg hi]
def Rd.stmt (r : Rd) : St × Rd := stmtF (8 * r.m + 1) r
def Rd.comp (k pl : Int) (r : Rd) : St × Rd := compF (8 * r.m + 5) k pl r
def Rd.ors (l : List (List St)) (r : Rd) : List (List St) × Rd := orF (8 * r.m + 4) l r
def Rd.stmts (l : List St) (r : Rd) : List St × Rd := stmtsF (8 * r.m + 2) l r
theorem Rd.ok.stmt {r : Rd} (h : r.ok) : r.to r.stmt.2 := (stmt_to _).1 r h
theorem Rd.ok.comp {r : Rd} (h : r.ok) (k pl : Int) : r.to (r.comp k pl).2 := (stmt_to _).2.1 k pl r h
theorem Rd.ok.ors {r : Rd} (h : r.ok) (l : List (List St)) : r.to (r.ors l).2 := (stmt_to _).2.2.1 l r h
theorem Rd.ok.stmts {r : Rd} (h : r.ok) (l : List St) : r.to (r.stmts l).2 := (stmt_to _).2.2.2.2 l r h
theorem stmt_of {f : Nat} {r : Rd} (h : r.ok) (hf : 8 * r.m + 1 ≤ f) : stmtF f r = r.stmt := (stmt_fuel (f + (8 * r.m + 1))).1 f _ r (by omega) (by omega) h hf (Nat.le_refl _)
theorem comp_of {f : Nat} {r : Rd} {k pl : Int} (h : r.ok) (hf : 8 * r.m + 5 ≤ f) : compF f k pl r = r.comp k pl := (stmt_fuel (f + (8 * r.m + 5))).2.1 f _ k pl r (by omega) (by omega) h hf (Nat.le_refl _)
theorem ors_of {f : Nat} {r : Rd} {l : List (List St)} (h : r.ok) (hf : 8 * r.m + 4 ≤ f) : orF f l r = r.ors l := (stmt_fuel (f + (8 * r.m + 4))).2.2.1 f _ l r (by omega) (by omega) h hf (Nat.le_refl _)
theorem block_of {f : Nat} {r : Rd} (h : r.ok) (hf : 8 * r.m + 3 ≤ f) : blockF f r = r.block := (stmt_fuel (f + (8 * r.m + 3))).2.2.2.1 f _ r (by omega) (by omega) h hf (Nat.le_refl _)
theorem stmts_of {f : Nat} {r : Rd} {l : List St} (h : r.ok) (hf : 8 * r.m + 2 ≤ f) : stmtsF f l r = r.stmts l := (stmt_fuel (f + (8 * r.m + 2))).2.2.2.2 f _ l r (by omega) (by omega) h hf (Nat.le_refl _)
theorem Rd.stmt_eq {r : Rd} (h : r.ok) : r.stmt = if r.next.kind = 1 then r.set_ else if ¬ r.next.kind = 3 ∨ kindOf r.next.text = 0 then (⟨kindOf r.next.text, [], [], 0, ex0, [], r.next.pl⟩, r.fail 40) else
    if 3 ≤ kindOf r.next.text ∧ kindOf r.next.text ≤ 7 then r.take.comp (kindOf r.next.text) r.next.pl else r.take.simple (kindOf r.next.text) r.next.pl := by
  rw [show r.stmt = stmtF (8 * r.m + 1) r from rfl, stmtF]
  by_cases hk : r.next.kind = 1
  · rw [if_pos hk, if_pos hk]
  rw [if_neg hk, if_neg hk]
  by_cases hk3 : ¬ r.next.kind = 3 ∨ kindOf r.next.text = 0
  · rw [if_pos hk3, if_pos hk3]
  rw [if_neg hk3, if_neg hk3]
  have h3 : r.next.kind = 3 := Classical.byContradiction fun e => hk3 (.inl e)
  obtain ⟨c1, c2⟩ := Rd.next_code (by decide) h3
  obtain ⟨t1, t2⟩ := h.takes c1 (by rw [c2]; decide)
  rw [comp_of h.take.ok (by omega)]
theorem Rd.comp_eq {r : Rd} (h : r.ok) (k pl : Int) : r.comp k pl =
    if k = 3 then (if (r.head k).2.block.2.is [101, 108, 115, 101] = true then
        (⟨k, (r.head k).1.1, [], 0, (r.head k).1.2, [(r.head k).2.block.1, (r.head k).2.block.2.take.block.1], pl⟩, (r.head k).2.block.2.take.block.2)
      else (⟨k, (r.head k).1.1, [], 0, (r.head k).1.2, [(r.head k).2.block.1], pl⟩, (r.head k).2.block.2))
    else if k = 6 then (⟨k, (r.head k).1.1, [], 0, (r.head k).1.2, ((r.head k).2.block.2.ors [(r.head k).2.block.1]).1, pl⟩, ((r.head k).2.block.2.ors [(r.head k).2.block.1]).2)
    else (⟨k, (r.head k).1.1, [], 0, (r.head k).1.2, [(r.head k).2.block.1], pl⟩, (r.head k).2.block.2) := by
  have hh := h.head k
  have hm := hh.m
  have ht := hh.trans hh.ok.block
  have htm := ht.m
  have hk := ht.ok.take
  have hkm := hk.m
  rw [show r.comp k pl = compF (8 * r.m + 4 + 1) k pl r from rfl, compF, block_of hh.ok (by omega), block_of hk.ok (by omega), ors_of ht.ok (by omega)]
theorem Rd.ors_eq {r : Rd} (h : r.ok) (l : List (List St)) : r.ors l = if r.is [111, 114] = true then (r.room l.length 8).take.block.2.ors (l ++ [(r.room l.length 8).take.block.1]) else (l, r) := by
  rw [show r.ors l = orF (8 * r.m + 3 + 1) l r from rfl, orF]
  by_cases hi : r.is [111, 114] = true
  · rw [if_pos hi, if_pos hi]
    obtain ⟨t1, t2⟩ : r.to (r.room l.length 8).take ∧ (r.room l.length 8).take.m < r.m := by
      have h1 := h.room (n := l.length) (most := 8)
      refine ⟨h1.trans h1.ok.take, ?_⟩
      obtain ⟨d1, d2⟩ := Rd.is_not5 hi
      unfold Rd.room
      by_cases hm : (l.length : Int) ≥ 8
      · rw [if_pos hm]
        have h1 := Rd.fail_m d1 h (e := 6) (by decide)
        have h2 := (h.fail (e := 6) (by decide)).ok.take.m
        omega
      · rw [if_neg hm]; exact (h.isTake hi).1
    have ht := t1.ok.block
    have htm := ht.m
    rw [block_of t1.ok (by omega), ors_of ht.ok (by omega)]
  · rw [if_neg hi, if_neg hi]
theorem Rd.block_eq {r : Rd} (h : r.ok) : r.block = if r.is [123] = true then ((r.enter.stmts []).1, ((r.enter.stmts []).2.must [125]).leave) else ([], r.fail 40) := by
  rw [show r.block = blockF (8 * r.m + 2 + 1) r from rfl, blockF]
  by_cases hi : r.is [123] = true
  · rw [if_pos hi, if_pos hi]
    obtain ⟨g1, g2⟩ := h.entM hi
    rw [stmts_of g1 (by omega)]
  · rw [if_neg hi, if_neg hi]
theorem Rd.stmt_lt {r : Rd} (h : r.ok) (hc : r.code = 0) : r.stmt.2.m < r.m := Q.stmt_lt _ r h hc
theorem Rd.stmts_eq {r : Rd} (h : r.ok) (l : List St) : r.stmts l = if r.code = 0 ∧ ¬ r.is [125] = true then r.stmt.2.stmts (l ++ [r.stmt.1]) else (l, r) := by
  rw [show r.stmts l = stmtsF (8 * r.m + 1 + 1) l r from rfl, stmtsF]
  by_cases hi : r.code = 0 ∧ ¬ r.is [125] = true
  · rw [if_pos hi, if_pos hi]
    have h3 := Rd.stmt_lt h hi.1
    rw [stmt_of h (by omega), stmts_of h.stmt.ok (by omega)]
  · rw [if_neg hi, if_neg hi]
end Go.Proofs.YtmflfcbebeikcaaGreatDoor.Q

namespace Go.Proofs.YtmflfcbebeikcaaGreatDoor.Q
open Go.RowKit
variable [Amb]

/-! ### tokens, readers -/
def Tk.sg (t : Tk) (s : Str) : Prop := (t.kind = 3 ∨ t.kind = 4) ∧ t.text = s
def Tk.nm (t : Tk) (s : Str) : Prop := t.kind = 1 ∧ t.text = s
def Tk.nu (t : Tk) (n : Int) : Prop := t.kind = 2 ∧ t.n = n
abbrev rd (a o : Int) (l : List Tk) : Rd := ⟨0, a, l, o⟩
structure Tl (l : List Tk) : Prop where
  last : ∃ k t, l = k ++ [t] ∧ t.kind = 5
  len : l.length < 1073741824
theorem Tl.ok {l : List Tk} (h : Tl l) {a o : Int} (h0 : 0 ≤ o) (h1 : o ≤ 64) : (rd a o l).ok := ⟨h.last, h.len, h0, by show o ≤ 65; omega, fun _ => h1⟩
theorem Tl.drop {ts rest : List Tk} (h : Tl (ts ++ rest)) (hr : rest ≠ []) : Tl rest := by
  obtain ⟨k, t, e, h5⟩ := h.last
  rcases List.eq_nil_or_concat rest with rfl | ⟨k', t', rfl⟩
  · exact absurd rfl hr
  · rw [List.concat_eq_append] at e ⊢
    rw [← List.append_assoc] at e
    obtain ⟨_, e2⟩ := List.append_inj' e rfl
    refine ⟨⟨k', t', rfl, ?_⟩, by have := h.len; rw [List.length_append, List.concat_eq_append] at this; omega⟩
    injection e2 with e2; rw [e2]; exact h5
theorem Tl.tail {t : Tk} {rest : List Tk} (h : Tl (t :: rest)) (hr : rest ≠ []) : Tl rest := Tl.drop (ts := [t]) h hr
theorem rd_next (a o : Int) (t : Tk) (l : List Tk) : (rd a o (t :: l)).next = t := rfl
theorem rd_is (a o : Int) (t : Tk) (l : List Tk) (s : Str) : (rd a o (t :: l)).is s = true ↔ t.sg s := by
  unfold Rd.is Tk.sg
  rw [rd_next]
  simp only [Bool.and_eq_true, Bool.or_eq_true, beq_iff_eq]
theorem rd_take (a o : Int) (t : Tk) {l : List Tk} (h : l ≠ []) : (rd a o (t :: l)).take = rd a o l := by
  unfold Rd.take
  rw [if_pos ⟨rfl, by cases l with | nil => exact absurd rfl h | cons x l => simp⟩]
  rfl
theorem rd_enter (a : Int) {o : Int} (t : Tk) {l : List Tk} (h : l ≠ []) (ho : o < 64) : (rd a o (t :: l)).enter = rd a (o + 1) l := by
  unfold Rd.enter Rd.deep
  rw [if_neg (by show ¬ 64 ≤ o; omega)]
  exact rd_take a (o + 1) t h
theorem rd_enter_deep (a : Int) {o : Int} (t : Tk) (l : List Tk) (ho : 64 ≤ o) : (rd a o (t :: l)).enter.code = 41 ∧ (rd a o (t :: l)).enter.at_ = t.pl := by
  unfold Rd.enter Rd.deep
  rw [if_pos (by show 64 ≤ o; omega)]
  have e : (rd a o (t :: l)).fail 41 = ⟨41, t.pl, t :: l, o⟩ := rfl
  rw [e]
  unfold Rd.take
  rw [if_neg (fun e => absurd e.1 (by show ¬ (41 : Int) = 0; decide))]
  exact ⟨rfl, rfl⟩
theorem rd_leave (a o : Int) (l : List Tk) : (rd a (o + 1) l).leave = rd a o l := by
  unfold Rd.leave Rd.more
  show Rd.mk 0 a l (o + 1 + -1) = _
  rw [Int.add_neg_cancel_right]
theorem rd_must (a o : Int) {t : Tk} {l : List Tk} {s : Str} (h : l ≠ []) (hs : t.sg s) : (rd a o (t :: l)).must s = rd a o l := by
  unfold Rd.must
  rw [if_pos ((rd_is a o t l s).2 hs), rd_take a o t h]
theorem rd_of (a o : Int) {t : Tk} {l : List Tk} {k : Int} (h : l ≠ []) (hk : t.kind = k) : (rd a o (t :: l)).of k = (t, rd a o l) := by
  unfold Rd.of Rd.want
  rw [rd_next, if_pos hk, rd_next, rd_take a o t h]
theorem rd_name (a o : Int) {t : Tk} {l : List Tk} {s : Str} (h : l ≠ []) (hk : t.nm s) : (rd a o (t :: l)).name = ((s, t.pl), rd a o l) := by
  unfold Rd.name
  rw [rd_of a o h hk.1, ← hk.2]
theorem rd_pair (a o : Int) {t u v : Tk} {l : List Tk} {m n : Str} (h : l ≠ []) (ht : t.nm m) (hu : u.sg [46]) (hv : v.nm n) : (rd a o (t :: u :: v :: l)).pair = ((m, n), rd a o l) := by
  unfold Rd.pair
  rw [rd_name a o (by simp) ht]
  dsimp only
  rw [rd_must a o (by simp) hu, rd_name a o h hv]
/-! ### a reader that has failed stays as it is -/
theorem bad_next {r : Rd} (h : r.code ≠ 0) : r.next = tk0 := by unfold Rd.next; rw [if_neg h]
theorem bad_is {r : Rd} (h : r.code ≠ 0) (s : Str) : ¬ r.is s = true := by unfold Rd.is; rw [bad_next h]; simp [tk0]
theorem bad_take {r : Rd} (h : r.code ≠ 0) : r.take = r := by unfold Rd.take; rw [if_neg (fun e => h e.1)]
theorem bad_fail {r : Rd} (h : r.code ≠ 0) (e : Int) : r.fail e = r := by unfold Rd.fail; rw [if_neg h]
theorem bad_must {r : Rd} (h : r.code ≠ 0) (s : Str) : r.must s = r := by unfold Rd.must; rw [if_neg (bad_is h s), bad_fail h]
theorem bad_of {r : Rd} (h : r.code ≠ 0) {k : Int} (hk : k ≠ 0) : r.of k = (tk0, r) := by
  unfold Rd.of Rd.want
  rw [bad_next h, if_neg (fun e => hk e.symm), bad_fail h, bad_take h, bad_next h]
theorem bad_name {r : Rd} (h : r.code ≠ 0) : r.name = (([], 0), r) := by unfold Rd.name; rw [bad_of h (by decide)]; rfl
theorem bad_pair {r : Rd} (h : r.code ≠ 0) : r.pair.2 = r := by unfold Rd.pair; rw [bad_name h]; dsimp only; rw [bad_must h, bad_name h]
theorem bad_oper {r : Rd} (h : r.code ≠ 0) : ∀ l : List (Str × Int), r.oper l = ((0, false), r)
  | [] => rfl
  | p :: l => by rw [Rd.oper, if_neg (bad_is h _), bad_oper h l]
theorem bad_expr (f : Nat) : (∀ lv r, Rd.code r ≠ 0 → (binF f lv r).2 = r) ∧ (∀ lv e r, Rd.code r ≠ 0 → (loopF f lv e r) = (e, r)) ∧ (∀ r, Rd.code r ≠ 0 → (termF f r).2 = r) := by
  induction f with
  | zero => exact ⟨fun _ _ _ => by rw [binF], fun _ _ _ _ => by rw [loopF], fun _ _ => by rw [termF]⟩
  | succ f ih =>
    obtain ⟨iB, iL, iT⟩ := ih
    refine ⟨fun lv r h => ?_, fun lv e r h => ?_, fun r h => ?_⟩
    · rw [binF]
      split
      · exact iT r h
      · rw [if_neg (fun e => bad_is h _ e.2)]
        rw [iB _ _ h, iL _ _ _ h]
    · rw [loopF, bad_oper h]; rfl
    · rw [termF, bad_next h]
      rw [if_neg (by decide), if_neg (by decide), if_neg (bad_is h _), if_neg (bad_is h _), if_neg (bad_is h _), if_neg (bad_is h _), bad_fail h]
theorem bad_bin {r : Rd} (h : r.code ≠ 0) (lv : Nat) : (r.bin lv).2 = r := (bad_expr _).1 lv r h
theorem bad_loop {r : Rd} (h : r.code ≠ 0) (lv : Nat) (e : Ex) : r.loop lv e = (e, r) := (bad_expr _).2.1 lv e r h
theorem bad_term {r : Rd} (h : r.code ≠ 0) : r.term.2 = r := (bad_expr _).2.2 r h
/-! ### expressions but for places -/
mutual
def Ex.er : Ex → Ex
  | ⟨op, mon, name, n, kids, _⟩ => ⟨op, mon, name, n, Ex.ers kids, 0⟩
def Ex.ers : List Ex → List Ex
  | [] => []
  | x :: l => x.er :: Ex.ers l
end
theorem Ex.ers_map : ∀ l : List Ex, Ex.ers l = l.map Ex.er
  | [] => by simp [Ex.ers]
  | x :: l => by rw [Ex.ers, Ex.ers_map l]; rfl
theorem Ex.er_eq (x : Ex) : x.er = ⟨x.op, x.mon, x.name, x.n, x.kids.map Ex.er, 0⟩ := by
  cases x; rw [Ex.er, Ex.ers_map]
theorem er_mk {op : Int} {mon name : Str} {n pl pl' : Int} {k k' : List Ex} (h : k.map Ex.er = k'.map Ex.er) : (Ex.mk op mon name n k pl).er = (Ex.mk op mon name n k' pl').er := by
  rw [Ex.er_eq, Ex.er_eq]; dsimp only; rw [h]
/-! ### derivations -/
/-- The kinds with two parts: its level, its sign, the levels of its parts. -/
def rules : List (Int × Nat × Str × Nat × Nat) :=
  [(17, 1, [124, 124], 1, 2), (16, 2, [38, 38], 2, 3), (10, 4, [61, 61], 5, 5), (11, 4, [33, 61], 5, 5), (12, 4, [60], 5, 5), (13, 4, [60, 61], 5, 5), (14, 4, [62], 5, 5), (15, 4, [62, 61], 5, 5), (8, 5, [43], 5, 6), (9, 5, [45], 5, 6)]
inductive DE : Nat → List Tk → Ex → Nat → Prop
  | par {L : Nat} {t u : Tk} {ts : List Tk} {e : Ex} {d : Nat} (ht : t.sg [40]) (h : DE 1 ts e d) (hu : u.sg [41]) : DE L (t :: (ts ++ [u])) e (d + 1)
  | num {L : Nat} {t : Tk} {n pl : Int} (ht : t.nu n) : DE L [t] ⟨1, [], [], n, [], pl⟩ 0
  | tru {L : Nat} {t : Tk} {pl : Int} (ht : t.sg [116, 114, 117, 101]) : DE L [t] ⟨2, [], [], 0, [], pl⟩ 0
  | fls {L : Nat} {t : Tk} {pl : Int} (ht : t.sg [102, 97, 108, 115, 101]) : DE L [t] ⟨3, [], [], 0, [], pl⟩ 0
  | var {L : Nat} {t u v : Tk} {m n : Str} {pl : Int} (ht : t.nm m) (hu : u.sg [46]) (hv : v.nm n) : DE L [t, u, v] ⟨4, m, n, 0, [], pl⟩ 0
  | neg {L : Nat} {t : Tk} {ts : List Tk} {e : Ex} {d : Nat} {pl : Int} (ht : t.sg [45]) (h : DE 6 ts e d) : DE L (t :: ts) ⟨6, [], [], 0, [e], pl⟩ (d + 1)
  | mul {L : Nat} {t u : Tk} {ts : List Tk} {n : Int} {e : Ex} {d : Nat} {pl : Int} (ht : t.nu n) (hu : u.sg [42]) (h : DE 6 ts e d) : DE L (t :: u :: ts) ⟨7, [], [], n, [e], pl⟩ (d + 1)
  | not {L : Nat} {t : Tk} {ts : List Tk} {e : Ex} {d : Nat} {pl : Int} (hL : L ≤ 3) (ht : t.sg [33]) (h : DE 3 ts e d) : DE L (t :: ts) ⟨5, [], [], 0, [e], pl⟩ (d + 1)
  | bin {L : Nat} {op : Int} {rl l r : Nat} {s : Str} {t : Tk} {ts us : List Tk} {e f : Ex} {d g : Nat} {pl : Int} (hr : (op, rl, s, l, r) ∈ rules) (hL : L ≤ rl) (h1 : DE l ts e d) (ht : t.sg s) (h2 : DE r us f g) : DE L (ts ++ t :: us) ⟨op, [], [], 0, [e, f], pl⟩ (max d g)
/-- The parser's level. -/
def lvOf : Nat → Nat
  | 0 => 0
  | 1 => 0
  | 2 => 1
  | 3 => 2
  | 4 => 2
  | 5 => 3
  | _ => 4
def lvS : Nat → List Str
  | 0 => [[124, 124]]
  | 1 => [[38, 38]]
  | 2 => [[61, 61], [33, 61], [60], [60, 61], [62], [62, 61]]
  | 3 => [[43], [45]]
  | 4 => [[42]]
  | _ => []
/-- No operator of a level or of a tighter one is next. -/
def nop (p : Nat) (l : List Tk) : Prop := ∀ q, p ≤ q → ∀ s ∈ lvS q, ∀ t ∈ l.head?, ¬ t.sg s
theorem nop.up {p q : Nat} {l : List Tk} (h : nop p l) (hpq : p ≤ q) : nop q l := fun k hk => h k (Nat.le_trans hpq hk)
theorem lvl_signs : ∀ q : Nat, q ≤ 3 → (lvl q).map Prod.fst = lvS q
  | 0, _ => rfl
  | 1, _ => rfl
  | 2, _ => rfl
  | 3, _ => rfl
  | n + 4, h => by omega
theorem oper_none {r : Rd} : ∀ {l : List (Str × Int)}, (∀ s ∈ l.map Prod.fst, ¬ r.is s = true) → r.oper l = ((0, false), r)
  | [], _ => rfl
  | p :: l, h => by rw [Rd.oper, if_neg (h p.1 (by simp)), oper_none (fun s hs => h s (by simp at hs ⊢; exact .inr hs))]
theorem nop_oper {p q : Nat} {a o : Int} {l : List Tk} (hl : l ≠ []) (h : nop p l) (hpq : p ≤ q) (hq : q ≤ 3) : (rd a o l).oper (lvl q) = ((0, false), rd a o l) := by
  refine oper_none fun s hs hi => ?_
  rw [lvl_signs q hq] at hs
  cases l with
  | nil => exact hl rfl
  | cons t l => exact h q hpq s hs t rfl ((rd_is a o t l s).1 hi)
theorem nop_loop {p : Nat} {a o : Int} {l : List Tk} (hl : Tl l) (h0 : 0 ≤ o) (h1 : o ≤ 64) (h : nop p l) (hp : p ≤ 3) (e : Ex) : (rd a o l).loop p e = (e, rd a o l) := by
  have hn : l ≠ [] := by obtain ⟨k, t, e, _⟩ := hl.last; rw [e]; simp
  rw [Rd.loop_eq (hl.ok h0 h1) hp, nop_oper hn h (Nat.le_refl _) hp, if_neg (by simp)]
/-- What is to be shown of the parser at a level. -/
def GoesTo (p : Nat) (r : Rd) (rest : List Tk) (e : Ex) (r' : Rd) : Prop := (p ≠ 2 → p ≤ 3 → nop (p + 1) rest → r.bin p = r'.loop p e) ∧ (p = 2 ∨ p = 4 → nop p rest → r.bin p = (e, r'))
theorem GoesTo.val {p : Nat} {r : Rd} {rest : List Tk} {e : Ex} {a o : Int} (h : GoesTo p r rest e (rd a o rest)) (hl : Tl rest) (h0 : 0 ≤ o) (h1 : o ≤ 64) (hp : p ≤ 4) (hn : nop p rest) : r.bin p = (e, rd a o rest) := by
  by_cases h2 : p = 2 ∨ p = 4
  · exact h.2 h2 hn
  · rw [h.1 (by omega) (by omega) (hn.up (by omega))]
    exact nop_loop hl h0 h1 hn (by omega) e
theorem GoesTo.lift {p : Nat} {r : Rd} (hr : r.ok) {rest : List Tk} {e : Ex} {a o : Int} (h : GoesTo (p + 1) r rest e (rd a o rest)) (hl : Tl rest) (h0 : 0 ≤ o) (h1 : o ≤ 64) (hp : p ≤ 3) (hi : p = 2 → ¬ r.is [33] = true) : GoesTo p r rest e (rd a o rest) := by
  have hb := fun hn : nop (p + 1) rest => h.val hl h0 h1 (by omega) hn
  have he := Rd.bin_eq hr hp (fun e => hi e.1 e.2)
  refine ⟨fun _ _ hn => by rw [he, hb hn], fun h2 hn => ?_⟩
  rw [he, hb (hn.up (by omega))]
  exact nop_loop hl h0 h1 hn hp e
theorem GoesTo.down {q : Nat} {r : Rd} (hr : r.ok) {rest : List Tk} {e : Ex} {a o : Int} (hl : Tl rest) (h0 : 0 ≤ o) (h1 : o ≤ 64) (hi : 3 ≤ q → ¬ r.is [33] = true) : ∀ (k p : Nat), p + k = q → q ≤ 4 → GoesTo q r rest e (rd a o rest) → GoesTo p r rest e (rd a o rest)
  | 0, p, hpk, hq, h => by have : p = q := by omega
                           rw [this]; exact h
  | k + 1, p, hpk, hq, h => by
    have := GoesTo.down hr hl h0 h1 hi k (p + 1) (by omega) hq h
    exact this.lift hr hl h0 h1 (by omega) (fun e => hi (by omega))
/-- It is too deep, and is told so. -/
def Bad (r : Rd) (ts : List Tk) (o : Int) : Prop := r.code = 41 ∧ ∃ (j : Nat) (t : Tk), ts[j]? = some t ∧ r.at_ = t.pl ∧ 64 - o ≤ j
theorem Bad.code {r : Rd} {ts : List Tk} {o : Int} (h : Bad r ts o) : r.code ≠ 0 := by rw [h.1]; decide
theorem Bad.app {r : Rd} {ts : List Tk} {o : Int} (h : Bad r ts o) (us : List Tk) : Bad r (ts ++ us) o := by
  obtain ⟨h1, j, t, h2, h3, h4⟩ := h
  refine ⟨h1, j, t, ?_, h3, h4⟩
  rw [List.getElem?_append_left]
  · exact h2
  · exact (List.getElem?_eq_some_iff.1 h2).1
theorem Bad.pre {r : Rd} {ts : List Tk} {o : Int} (h : Bad r ts o) (us : List Tk) : Bad r (us ++ ts) o := by
  obtain ⟨h1, j, t, h2, h3, h4⟩ := h
  refine ⟨h1, us.length + j, t, ?_, h3, by omega⟩
  rw [List.getElem?_append_right (by omega), Nat.add_sub_cancel_left]; exact h2
theorem Bad.cons {r : Rd} {ts : List Tk} {o : Int} (h : Bad r ts (o + 1)) (t : Tk) : Bad r (t :: ts) o := by
  obtain ⟨h1, j, u, h2, h3, h4⟩ := h
  exact ⟨h1, j + 1, u, h2, h3, by omega⟩
theorem Bad.leave {r : Rd} {ts : List Tk} {o : Int} (h : Bad r ts o) : Bad r.leave ts o := h
theorem Bad.lift {p : Nat} {r : Rd} (hr : r.ok) {ts : List Tk} {o : Int} (h : Bad (r.bin (p + 1)).2 ts o) (hp : p ≤ 3) (hi : p = 2 → ¬ r.is [33] = true) : Bad (r.bin p).2 ts o := by
  rw [Rd.bin_eq hr hp (fun e => hi e.1 e.2), bad_loop h.code]; exact h
theorem Bad.down {q : Nat} {r : Rd} (hr : r.ok) {ts : List Tk} {o : Int} (hi : 3 ≤ q → ¬ r.is [33] = true) : ∀ (k p : Nat), p + k = q → q ≤ 4 → Bad (r.bin q).2 ts o → Bad (r.bin p).2 ts o
  | 0, p, hpk, hq, h => by have : p = q := by omega
                           rw [this]; exact h
  | k + 1, p, hpk, hq, h => by
    have := Bad.down hr hi k (p + 1) (by omega) hq h
    exact this.lift hr (by omega) (fun e => hi (by omega))
theorem lvOf_le (L : Nat) : lvOf L ≤ 4 := by
  unfold lvOf; split <;> omega
theorem DE.head {L : Nat} {ts : List Tk} {e : Ex} {d : Nat} (h : DE L ts e d) : ∃ t us, ts = t :: us ∧ (4 ≤ L → ¬ t.sg [33]) := by
  have ne : ∀ {t : Tk} {s : Str}, t.sg s → s ≠ [33] → ¬ t.sg [33] := fun h1 h2 h3 => h2 (h1.2.symm.trans h3.2)
  induction h with
  | par ht _ _ _ => exact ⟨_, _, rfl, fun _ => ne ht (by decide)⟩
  | num ht => exact ⟨_, _, rfl, fun _ h => by have := ht.1; have := h.1; omega⟩
  | tru ht => exact ⟨_, _, rfl, fun _ => ne ht (by decide)⟩
  | fls ht => exact ⟨_, _, rfl, fun _ => ne ht (by decide)⟩
  | var ht _ _ => exact ⟨_, _, rfl, fun _ h => by have := ht.1; have := h.1; omega⟩
  | neg ht _ _ => exact ⟨_, _, rfl, fun _ => ne ht (by decide)⟩
  | mul ht _ _ _ => exact ⟨_, _, rfl, fun _ h => by have := ht.1; have := h.1; omega⟩
  | not hL _ _ _ => exact ⟨_, _, rfl, fun h => by omega⟩
  | bin hr hL h1 ht h2 i1 i2 =>
    obtain ⟨t, us, e, h⟩ := i1
    refine ⟨t, _, by rw [e]; rfl, fun h4 => h ?_⟩
    simp only [rules, List.mem_cons, Prod.mk.injEq, List.not_mem_nil, or_false] at hr
    rcases hr with h | h | h | h | h | h | h | h | h | h <;> omega
theorem DE.mono {L : Nat} {ts : List Tk} {e : Ex} {d : Nat} (h : DE L ts e d) {K : Nat} (hk : K ≤ L) : DE K ts e d := by
  cases h with
  | par ht h hu => exact .par ht h hu
  | num ht => exact .num ht
  | tru ht => exact .tru ht
  | fls ht => exact .fls ht
  | var ht hu hv => exact .var ht hu hv
  | neg ht h => exact .neg ht h
  | mul ht hu h => exact .mul ht hu h
  | not hL ht h => exact .not (by omega) ht h
  | bin hr hL h1 ht h2 => exact .bin hr (by omega) h1 ht h2
theorem GoesTo.atom {r : Rd} {rest : List Tk} {e : Ex} {r' : Rd} (h : nop 4 rest → r.bin 4 = (e, r')) : GoesTo 4 r rest e r' := ⟨fun _ h3 => by omega, fun _ => h⟩
theorem lvOf_if : ∀ L : Nat, lvOf L = if L ≤ 1 then 0 else if L = 2 then 1 else if L ≤ 4 then 2 else if L = 5 then 3 else 4
  | 0 => rfl
  | 1 => rfl
  | 2 => rfl
  | 3 => rfl
  | 4 => rfl
  | 5 => rfl
  | n + 6 => by rw [if_neg (by omega), if_neg (by omega), if_neg (by omega), if_neg (by omega)]; rfl
theorem lvOf_mono {L K : Nat} (h : L ≤ K) : lvOf L ≤ lvOf K := by
  rw [lvOf_if L, lvOf_if K]
  split <;> split <;> (try split) <;> (try split) <;> (try split) <;> (try split) <;> (try split) <;> (try split) <;> omega
/-- The sign of an operator. -/
theorem rule_is {op : Int} {rl l r : Nat} {s : Str} (h : (op, rl, s, l, r) ∈ rules) : lvOf rl ≤ 3 ∧ lvOf r = lvOf rl + 1 ∧ (lvOf rl ≠ 2 → lvOf l = lvOf rl ∧ (lvls.getD (lvOf rl) ([], false)).2 = false) ∧ (lvOf rl = 2 → lvOf l = 3 ∧ 4 ≤ l ∧ (lvls.getD (lvOf rl) ([], false)).2 = true) ∧
    (∀ L, L ≤ rl → lvOf L ≤ lvOf rl) ∧ (3 ≤ lvOf rl → 4 ≤ l) ∧
    (∀ (a o : Int) (t : Tk) (k : List Tk), t.sg s → k ≠ [] → nop (lvOf rl + 1) (t :: k) ∧ (rd a o (t :: k)).oper (lvl (lvOf rl)) = ((op, true), rd a o k)) := by
  have mono : ∀ L, L ≤ rl → lvOf L ≤ lvOf rl := fun L hL => lvOf_mono hL
  simp only [rules, List.mem_cons, Prod.mk.injEq, List.not_mem_nil, or_false] at h
  rcases h with h | h | h | h | h | h | h | h | h | h
  all_goals
    obtain ⟨rfl, rfl, rfl, rfl, rfl⟩ := h
    refine ⟨by decide, by decide, by decide, by decide, mono, by decide, fun a o t k ht hk => ⟨fun q hq s hs u hu hsg => ?_, ?_⟩⟩
    · injection hu with hu
      subst hu
      have e := ht.2.symm.trans hsg.2
      subst e
      have hq4 : q ≤ 4 := by
        rcases Nat.lt_or_ge 4 q with h5 | h5
        · exfalso
          match q, h5 with
          | n + 5, _ => exact absurd hs (by simp [lvS])
        · exact h5
      have hq' : q = 1 ∨ q = 2 ∨ q = 3 ∨ q = 4 := by
        have : 1 ≤ q := by simp only [lvOf] at hq; omega
        omega
      rcases hq' with rfl | rfl | rfl | rfl <;> first | (exact absurd hs (by decide)) | (exact absurd hq (by decide))
    · have hi : ∀ s' : Str, (rd a o (t :: k)).is s' = true ↔ s' = t.text := fun s' => by
        rw [rd_is]
        exact ⟨fun h => h.2.symm, fun h => ⟨ht.1, h.symm⟩⟩
      have htk := rd_take a o t hk
      have he := ht.2
      simp only [lvOf, lvl, lvls, List.getD_cons_zero, List.getD_cons_succ]
      simp only [Rd.oper, hi, he]
      simp [htk]
end Go.Proofs.YtmflfcbebeikcaaGreatDoor.Q

namespace Go.Proofs.YtmflfcbebeikcaaGreatDoor.Q
open Go.RowKit
variable [Amb]

theorem is_sg {a o : Int} {t : Tk} {l : List Tk} {s0 : Str} (ht : t.sg s0) (s : Str) : (rd a o (t :: l)).is s = true ↔ s = s0 := by
  rw [rd_is]
  exact ⟨fun h => h.2.symm.trans ht.2, fun h => by rw [h]; exact ht⟩
theorem not_is {a o : Int} {t : Tk} {l : List Tk} (h1 : t.kind ≠ 3) (h2 : t.kind ≠ 4) (s : Str) : ¬ (rd a o (t :: l)).is s = true := by
  rw [rd_is]; exact fun h => by have := h.1; omega
theorem nop_sg {u : Tk} {s : Str} {l : List Tk} (hu : u.sg s) (h0 : s ∉ lvS 0) (h1 : s ∉ lvS 1) (h2 : s ∉ lvS 2) (h3 : s ∉ lvS 3) (h4 : s ∉ lvS 4) : nop 0 (u :: l) := by
  intro q _ s' hs t ht hsg
  injection ht with ht
  subst ht
  have e := hu.2.symm.trans hsg.2
  subst e
  match q, hs with
  | 0, hs => exact h0 hs
  | 1, hs => exact h1 hs
  | 2, hs => exact h2 hs
  | 3, hs => exact h3 hs
  | 4, hs => exact h4 hs
  | n + 5, hs => exact absurd hs (by simp [lvS])
theorem nop_kind {u : Tk} {l : List Tk} (h3 : u.kind ≠ 3) (h4 : u.kind ≠ 4) : nop 0 (u :: l) := by
  intro q _ s' hs t ht hsg
  injection ht with ht
  subst ht
  have := hsg.1; omega
abbrev Gs (L : Nat) (ts : List Tk) (e : Ex) (d : Nat) : Prop := ∀ (a o : Int) (rest : List Tk), 0 ≤ o → o ≤ 64 → rest ≠ [] → Tl (ts ++ rest) →
  (o + d ≤ 64 → ∃ e' : Ex, e'.er = e.er ∧ ∀ p ≤ lvOf L, GoesTo p (rd a o (ts ++ rest)) rest e' (rd a o rest)) ∧
  (64 < o + d → ∀ p ≤ lvOf L, Bad ((rd a o (ts ++ rest)).bin p).2 ts o)
/-- What no operator joins. -/
theorem goes_atom {L : Nat} {t : Tk} {us : List Tk} {e : Ex} {d : Nat} (hn : ¬ t.sg [33])
    (h : ∀ (a o : Int) (rest : List Tk), 0 ≤ o → o ≤ 64 → rest ≠ [] → Tl (t :: us ++ rest) →
      (o + d ≤ 64 → ∃ e' : Ex, e'.er = e.er ∧ (nop 4 rest → (rd a o (t :: us ++ rest)).term = (e', rd a o rest))) ∧
      (64 < o + d → Bad ((rd a o (t :: us ++ rest)).term).2 (t :: us) o)) : Gs L (t :: us) e d := by
  intro a o rest h0 h1 hr hl
  obtain ⟨g1, g2⟩ := h a o rest h0 h1 hr hl
  have hok : (rd a o (t :: us ++ rest)).ok := hl.ok h0 h1
  have hi : ¬ (rd a o (t :: us ++ rest)).is [33] = true := fun e => hn ((rd_is a o t (us ++ rest) _).1 e)
  refine ⟨fun hd => ?_, fun hd p hp => ?_⟩
  · obtain ⟨e', k1, k2⟩ := g1 hd
    refine ⟨e', k1, fun p hp => ?_⟩
    have := lvOf_le L
    exact GoesTo.down hok (hl.drop hr) h0 h1 (fun _ => hi) (4 - p) p (by omega) (Nat.le_refl _) (GoesTo.atom fun hn => by rw [Rd.bin4 hok]; exact k2 hn)
  · have := lvOf_le L
    refine Bad.down hok (fun _ => hi) (4 - p) p (by omega) (Nat.le_refl _) ?_
    rw [Rd.bin4 hok]
    exact g2 hd
theorem sg_kind {t : Tk} {s : Str} (h : t.sg s) : t.kind ≠ 1 ∧ t.kind ≠ 2 ∧ t.kind ≠ 5 := by
  have := h.1; omega
theorem goes_par {L : Nat} {t u : Tk} {ts : List Tk} {e : Ex} {d : Nat} (ht : t.sg [40]) (ih : Gs 1 ts e d) (hu : u.sg [41]) : Gs L (t :: (ts ++ [u])) e (d + 1) := by
  refine goes_atom (fun h => absurd (ht.2.symm.trans h.2) (by decide)) fun a o rest h0 h1 hr hl => ?_
  have el : t :: (ts ++ [u]) ++ rest = t :: (ts ++ (u :: rest)) := by simp
  rw [el] at hl ⊢
  have hk := sg_kind ht
  have hne : ts ++ u :: rest ≠ [] := by simp
  have hT := Rd.term_eq (hl.ok (a := a) h0 h1)
  rw [rd_next, if_neg hk.2.1, if_neg hk.1, if_neg (fun e => absurd ((is_sg ht _).1 e) (by decide)), if_pos ((is_sg ht _).2 rfl)] at hT
  have hl' := hl.tail hne
  refine ⟨fun hd => ?_, fun hd => ?_⟩
  · obtain ⟨e', k1, k2⟩ := (ih a (o + 1) (u :: rest) (by omega) (by omega) (by simp) hl').1 (by omega)
    refine ⟨e', k1, fun _ => ?_⟩
    have hv := (k2 0 (Nat.zero_le _)).val (hl'.drop (by simp)) (by omega) (by omega) (by decide) (nop_sg hu (by decide) (by decide) (by decide) (by decide) (by decide))
    rw [hT, rd_enter a t hne (by omega), hv]
    dsimp only
    rw [rd_must a (o + 1) hr hu, rd_leave]
  · rw [hT]
    by_cases h64 : 64 ≤ o
    · obtain ⟨c1, c2⟩ := rd_enter_deep a t (ts ++ u :: rest) h64
      have c0 : (rd a o (t :: (ts ++ u :: rest))).enter.code ≠ 0 := by rw [c1]; decide
      show Bad (((rd a o (t :: (ts ++ u :: rest))).enter.bin 0).2.must [41]).leave _ _
      rw [bad_bin c0, bad_must c0]
      exact ⟨c1, 0, t, rfl, c2, by omega⟩
    · have hb := (ih a (o + 1) (u :: rest) (by omega) (by omega) (by simp) hl').2 (by omega) 0 (Nat.zero_le _)
      show Bad (((rd a o (t :: (ts ++ u :: rest))).enter.bin 0).2.must [41]).leave _ _
      rw [rd_enter a t hne (by omega), bad_must hb.code]
      exact ((hb.app [u]).cons t).leave
theorem goes_neg {L : Nat} {t : Tk} {ts : List Tk} {e : Ex} {d : Nat} {pl : Int} (ht : t.sg [45]) (ih : Gs 6 ts e d) : Gs L (t :: ts) ⟨6, [], [], 0, [e], pl⟩ (d + 1) := by
  refine goes_atom (fun h => absurd (ht.2.symm.trans h.2) (by decide)) fun a o rest h0 h1 hr hl => ?_
  rw [List.cons_append] at hl ⊢
  have hk := sg_kind ht
  have hne : ts ++ rest ≠ [] := by simp [hr]
  have hT := Rd.term_eq (hl.ok (a := a) h0 h1)
  rw [rd_next, if_neg hk.2.1, if_neg hk.1, if_pos ((is_sg ht _).2 rfl)] at hT
  have hl' := hl.tail hne
  refine ⟨fun hd => ?_, fun hd => ?_⟩
  · obtain ⟨e', k1, k2⟩ := (ih a (o + 1) rest (by omega) (by omega) hr hl').1 (by omega)
    refine ⟨⟨6, [], [], 0, [e'], t.pl⟩, er_mk (by simp [k1]), fun hn => ?_⟩
    have hv := (k2 4 (by decide)).2 (.inr rfl) hn
    rw [Rd.bin4 (hl'.ok (by omega) (by omega))] at hv
    rw [hT, rd_enter a t hne (by omega), hv]
    dsimp only
    rw [rd_leave]
  · rw [hT]
    by_cases h64 : 64 ≤ o
    · obtain ⟨c1, c2⟩ := rd_enter_deep a t (ts ++ rest) h64
      have c0 : (rd a o (t :: (ts ++ rest))).enter.code ≠ 0 := by rw [c1]; decide
      show Bad ((rd a o (t :: (ts ++ rest))).enter.term.2).leave _ _
      rw [bad_term c0]
      exact ⟨c1, 0, t, rfl, c2, by omega⟩
    · have hb := (ih a (o + 1) rest (by omega) (by omega) hr hl').2 (by omega) 4 (by decide)
      rw [Rd.bin4 (hl'.ok (by omega) (by omega))] at hb
      show Bad ((rd a o (t :: (ts ++ rest))).enter.term.2).leave _ _
      rw [rd_enter a t hne (by omega)]
      exact (hb.cons t).leave
theorem goes_mul {L : Nat} {t u : Tk} {ts : List Tk} {n : Int} {e : Ex} {d : Nat} {pl : Int} (ht : t.nu n) (hu : u.sg [42]) (ih : Gs 6 ts e d) : Gs L (t :: u :: ts) ⟨7, [], [], n, [e], pl⟩ (d + 1) := by
  refine goes_atom (fun h => by have := ht.1; have := h.1; omega) fun a o rest h0 h1 hr hl => ?_
  rw [List.cons_append, List.cons_append] at hl ⊢
  have hne : ts ++ rest ≠ [] := by simp [hr]
  have hT := Rd.term_eq (hl.ok (a := a) h0 h1)
  rw [rd_next, if_pos ht.1, rd_take a o t (by simp), if_pos ((is_sg hu _).2 rfl)] at hT
  have hl1 := hl.tail (by simp)
  have hl' := hl1.tail hne
  refine ⟨fun hd => ?_, fun hd => ?_⟩
  · obtain ⟨e', k1, k2⟩ := (ih a (o + 1) rest (by omega) (by omega) hr hl').1 (by omega)
    refine ⟨⟨7, [], [], t.n, [e'], t.pl⟩, by rw [ht.2]; exact er_mk (by simp [k1]), fun hn => ?_⟩
    have hv := (k2 4 (by decide)).2 (.inr rfl) hn
    rw [Rd.bin4 (hl'.ok (by omega) (by omega))] at hv
    rw [hT, rd_enter a u hne (by omega), hv]
    dsimp only
    rw [rd_leave]
  · rw [hT]
    by_cases h64 : 64 ≤ o
    · obtain ⟨c1, c2⟩ := rd_enter_deep a u (ts ++ rest) h64
      have c0 : (rd a o (u :: (ts ++ rest))).enter.code ≠ 0 := by rw [c1]; decide
      show Bad ((rd a o (u :: (ts ++ rest))).enter.term.2).leave _ _
      rw [bad_term c0]
      exact ⟨c1, 1, u, rfl, c2, by omega⟩
    · have hb := (ih a (o + 1) rest (by omega) (by omega) hr hl').2 (by omega) 4 (by decide)
      rw [Rd.bin4 (hl'.ok (by omega) (by omega))] at hb
      show Bad ((rd a o (u :: (ts ++ rest))).enter.term.2).leave _ _
      rw [rd_enter a u hne (by omega)]
      exact ((hb.cons u).pre [t]).leave
theorem goes_num {L : Nat} {t : Tk} {n pl : Int} (ht : t.nu n) : Gs L [t] ⟨1, [], [], n, [], pl⟩ 0 := by
  refine goes_atom (fun h => by have := ht.1; have := h.1; omega) fun a o rest h0 h1 hr hl => ⟨fun hd => ?_, fun hd => by omega⟩
  have hT := Rd.term_eq (hl.ok (a := a) h0 h1)
  refine ⟨⟨1, [], [], t.n, [], t.pl⟩, by rw [ht.2]; exact er_mk rfl, fun hn => ?_⟩
  rw [List.singleton_append] at hT ⊢
  rw [rd_next, if_pos ht.1, rd_take a o t hr, if_neg] at hT
  · exact hT
  · cases rest with
    | nil => exact absurd rfl hr
    | cons u k => exact fun e => hn 4 (Nat.le_refl _) [42] (by decide) u rfl ((rd_is a o u k _).1 e)
theorem goes_tru {L : Nat} {t : Tk} {pl : Int} (ht : t.sg [116, 114, 117, 101]) : Gs L [t] ⟨2, [], [], 0, [], pl⟩ 0 := by
  refine goes_atom (fun h => absurd (ht.2.symm.trans h.2) (by decide)) fun a o rest h0 h1 hr hl => ⟨fun hd => ?_, fun hd => by omega⟩
  have hk := sg_kind ht
  have hT := Rd.term_eq (hl.ok (a := a) h0 h1)
  refine ⟨⟨2, [], [], 0, [], t.pl⟩, er_mk rfl, fun hn => ?_⟩
  rw [List.singleton_append] at hT ⊢
  rw [rd_next, if_neg hk.2.1, if_neg hk.1, if_neg (fun e => absurd ((is_sg ht _).1 e) (by decide)), if_neg (fun e => absurd ((is_sg ht _).1 e) (by decide)), if_pos ((is_sg ht _).2 rfl), rd_take a o t hr] at hT
  exact hT
theorem goes_fls {L : Nat} {t : Tk} {pl : Int} (ht : t.sg [102, 97, 108, 115, 101]) : Gs L [t] ⟨3, [], [], 0, [], pl⟩ 0 := by
  refine goes_atom (fun h => absurd (ht.2.symm.trans h.2) (by decide)) fun a o rest h0 h1 hr hl => ⟨fun hd => ?_, fun hd => by omega⟩
  have hk := sg_kind ht
  have hT := Rd.term_eq (hl.ok (a := a) h0 h1)
  refine ⟨⟨3, [], [], 0, [], t.pl⟩, er_mk rfl, fun hn => ?_⟩
  rw [List.singleton_append] at hT ⊢
  rw [rd_next, if_neg hk.2.1, if_neg hk.1, if_neg (fun e => absurd ((is_sg ht _).1 e) (by decide)), if_neg (fun e => absurd ((is_sg ht _).1 e) (by decide)), if_neg (fun e => absurd ((is_sg ht _).1 e) (by decide)), if_pos ((is_sg ht _).2 rfl), rd_take a o t hr] at hT
  exact hT
theorem goes_var {L : Nat} {t u v : Tk} {m n : Str} {pl : Int} (ht : t.nm m) (hu : u.sg [46]) (hv : v.nm n) : Gs L [t, u, v] ⟨4, m, n, 0, [], pl⟩ 0 := by
  refine goes_atom (fun h => by have := ht.1; have := h.1; omega) fun a o rest h0 h1 hr hl => ⟨fun hd => ?_, fun hd => by omega⟩
  have hT := Rd.term_eq (hl.ok (a := a) h0 h1)
  refine ⟨⟨4, m, n, 0, [], t.pl⟩, er_mk rfl, fun hn => ?_⟩
  simp only [List.cons_append, List.nil_append] at hT ⊢
  rw [rd_next, if_neg (by have := ht.1; omega), if_pos ht.1, rd_pair a o hr ht hu hv] at hT
  exact hT
theorem goes_not {L : Nat} {t : Tk} {ts : List Tk} {e : Ex} {d : Nat} {pl : Int} (hL : L ≤ 3) (ht : t.sg [33]) (ih : Gs 3 ts e d) : Gs L (t :: ts) ⟨5, [], [], 0, [e], pl⟩ (d + 1) := by
  intro a o rest h0 h1 hr hl
  rw [List.cons_append] at hl ⊢
  have hok := hl.ok (a := a) h0 h1
  have hne : ts ++ rest ≠ [] := by simp [hr]
  have hB := Rd.binNot hok ((is_sg ht _).2 rfl)
  have hl' := hl.tail hne
  have hlv : lvOf L ≤ 2 := by
    have : L = 0 ∨ L = 1 ∨ L = 2 ∨ L = 3 := by omega
    rcases this with rfl | rfl | rfl | rfl <;> decide
  refine ⟨fun hd => ?_, fun hd p hp => ?_⟩
  · obtain ⟨e', k1, k2⟩ := (ih a (o + 1) rest (by omega) (by omega) hr hl').1 (by omega)
    refine ⟨⟨5, [], [], 0, [e'], t.pl⟩, er_mk (by simp [k1]), fun p hp => ?_⟩
    refine GoesTo.down (q := 2) hok (hl'.drop hr) h0 h1 (fun h => absurd h (by decide)) (2 - p) p (by omega) (by decide) ⟨fun h => absurd rfl h, fun _ hn => ?_⟩
    have hv := (k2 2 (by decide)).2 (.inl rfl) hn
    rw [hB, rd_enter a t hne (by omega), hv]
    dsimp only
    rw [rd_leave]; rfl
  · refine Bad.down (q := 2) hok (fun h => absurd h (by decide)) (2 - p) p (by omega) (by decide) ?_
    rw [hB]
    by_cases h64 : 64 ≤ o
    · obtain ⟨c1, c2⟩ := rd_enter_deep a t (ts ++ rest) h64
      have c0 : (rd a o (t :: (ts ++ rest))).enter.code ≠ 0 := by rw [c1]; decide
      show Bad ((rd a o (t :: (ts ++ rest))).enter.bin 2).2.leave _ _
      rw [bad_bin c0]
      exact ⟨c1, 0, t, rfl, c2, by omega⟩
    · have hb := (ih a (o + 1) rest (by omega) (by omega) hr hl').2 (by omega) 2 (by decide)
      show Bad ((rd a o (t :: (ts ++ rest))).enter.bin 2).2.leave _ _
      rw [rd_enter a t hne (by omega)]
      exact (hb.cons t).leave
theorem goes_bin {L : Nat} {op : Int} {rl l r : Nat} {s : Str} {t : Tk} {ts us : List Tk} {e f : Ex} {d g : Nat} {pl : Int} (hr : (op, rl, s, l, r) ∈ rules) (hL : L ≤ rl) (h1' : DE l ts e d) (i1 : Gs l ts e d) (ht : t.sg s) (i2 : Gs r us f g) :
    Gs L (ts ++ t :: us) ⟨op, [], [], 0, [e, f], pl⟩ (max d g) := by
  obtain ⟨q3, qr, qa, qb, qm, q4, qs⟩ := rule_is hr
  intro a o rest h0 h1 hrest hl
  have el : ts ++ t :: us ++ rest = ts ++ (t :: (us ++ rest)) := by simp
  rw [el] at hl ⊢
  have hne : us ++ rest ≠ [] := by simp [hrest]
  have hl1 := hl.drop (by simp : t :: (us ++ rest) ≠ [])
  have hl2 := hl1.tail hne
  have hl3 := hl2.drop hrest
  have hok := hl.ok (a := a) h0 h1
  have hok1 := hl1.ok (a := a) h0 h1
  obtain ⟨s1, s2⟩ := qs a o t (us ++ rest) ht hne
  have hLq := qm L hL
  have hno : 3 ≤ lvOf rl → ¬ (rd a o (ts ++ t :: (us ++ rest))).is [33] = true := fun h3 e => by
    obtain ⟨t0, us0, e0, e1⟩ := h1'.head
    rw [e0] at e
    exact e1 (q4 h3) ((rd_is a o t0 _ _).1 e)
  have hno2 : lvOf rl = 2 → ¬ (rd a o (ts ++ t :: (us ++ rest))).is [33] = true := fun h2 e => by
    obtain ⟨t0, us0, e0, e1⟩ := h1'.head
    rw [e0] at e
    exact e1 (qb h2).2.1 ((rd_is a o t0 _ _).1 e)
  generalize hq : lvOf rl = q at *
  obtain ⟨a1, a2⟩ := i1 a o (t :: (us ++ rest)) h0 h1 (by simp) hl
  obtain ⟨b1, b2⟩ := i2 a o rest h0 h1 hrest hl2
  by_cases hd1 : o + d ≤ 64
  · obtain ⟨e', k1, k2⟩ := a1 hd1
    -- the way to the loop behind the left part
    have hloop : (rd a o (ts ++ t :: (us ++ rest))).bin q = (rd a o (t :: (us ++ rest))).loop q e' := by
      by_cases h2 : q = 2
      · obtain ⟨c1, c2, c3⟩ := qb h2
        have hv := (k2 3 (by omega)).val hl1 h0 h1 (by decide) (by rw [h2] at s1; exact s1)
        rw [Rd.bin_eq hok q3 (fun e => hno2 h2 e.2), h2, hv]
      · have := (qa h2).1
        exact (k2 q (by omega)).1 h2 q3 s1
    rw [Rd.loop_eq hok1 q3, s2] at hloop
    dsimp only at hloop
    rw [if_pos rfl] at hloop
    by_cases hd2 : o + g ≤ 64
    · obtain ⟨f', m1, m2⟩ := b1 hd2
      refine ⟨fun _ => ⟨⟨op, [], [], 0, [e', f'], e'.pl⟩, er_mk (by simp [k1, m1]), fun p hp => ?_⟩, fun hd => by omega⟩
      refine GoesTo.down hok hl3 h0 h1 hno (q - p) p (by omega) (by omega) ⟨fun h2 h3 hn => ?_, fun h24 hn => ?_⟩
      · have hv := (m2 (q + 1) (by omega)).val hl3 h0 h1 (by omega) hn
        rw [hloop, hv]
        dsimp only
        rw [if_neg (by rw [(qa h2).2]; decide)]
      · have h2 : q = 2 := by omega
        have hv := (m2 (q + 1) (by omega)).val hl3 h0 h1 (by omega) (hn.up (by omega))
        rw [hloop, hv]
        dsimp only
        rw [if_pos (qb h2).2.2]
    · refine ⟨fun hd => by omega, fun _ p hp => ?_⟩
      have hb := b2 (by omega) (q + 1) (by omega)
      refine Bad.down hok hno (q - p) p (by omega) (by omega) ?_
      rw [hloop]
      split
      · exact ((hb.pre [t]).pre ts)
      · rw [bad_loop hb.code]
        exact ((hb.pre [t]).pre ts)
  · refine ⟨fun hd => by omega, fun _ p hp => ?_⟩
    refine Bad.down hok hno (q - p) p (by omega) (by omega) ?_
    by_cases h2 : q = 2
    · obtain ⟨c1, c2, c3⟩ := qb h2
      have hb := a2 (by omega) 3 (by omega)
      rw [h2]
      exact (hb.lift hok (by decide) (fun _ => hno2 h2)).app _
    · have := (qa h2).1
      exact (a2 (by omega) q (by omega)).app _
/-- What is derived is parsed, or too deep. -/
theorem DE.goes {L : Nat} {ts : List Tk} {e : Ex} {d : Nat} (h : DE L ts e d) : Gs L ts e d := by
  induction h with
  | par ht h hu ih => exact goes_par ht ih hu
  | num ht => exact goes_num ht
  | tru ht => exact goes_tru ht
  | fls ht => exact goes_fls ht
  | var ht hu hv => exact goes_var ht hu hv
  | neg ht h ih => exact goes_neg ht ih
  | mul ht hu h ih => exact goes_mul ht hu ih
  | not hL ht h ih => exact goes_not hL ht ih
  | bin hr hL h1 ht h2 i1 i2 => exact goes_bin hr hL h1 i1 ht i2
/-- An expression that is derived, and what is behind it goes on with none of it. -/
theorem DE.expr {ts : List Tk} {e : Ex} {d : Nat} (h : DE 1 ts e d) (a : Int) {o : Int} {rest : List Tk} (h0 : 0 ≤ o) (h1 : o ≤ 64) (hr : rest ≠ []) (hl : Tl (ts ++ rest)) (hn : nop 0 rest) :
    (o + d ≤ 64 → ∃ e' : Ex, e'.er = e.er ∧ (rd a o (ts ++ rest)).expr = (e', rd a o rest)) ∧ (64 < o + d → Bad (rd a o (ts ++ rest)).expr.2 ts o) := by
  obtain ⟨g1, g2⟩ := h.goes a o rest h0 h1 hr hl
  refine ⟨fun hd => ?_, fun hd => g2 hd 0 (Nat.zero_le _)⟩
  obtain ⟨e', k1, k2⟩ := g1 hd
  exact ⟨e', k1, (k2 0 (Nat.zero_le _)).val (hl.drop hr) h0 h1 (by decide) hn⟩
end Go.Proofs.YtmflfcbebeikcaaGreatDoor.Q

namespace Go.Proofs.YtmflfcbebeikcaaGreatDoor.Q
open Go.RowKit
variable [Amb]

theorem Tl.ne {l : List Tk} (h : Tl l) : l ≠ [] := by obtain ⟨k, t, e, _⟩ := h.last; rw [e]; simp
theorem Tl.more {t : Tk} {l : List Tk} (h : Tl (t :: l)) (hk : t.kind ≠ 5) : l ≠ [] := by
  rintro rfl
  obtain ⟨k, u, e, h5⟩ := h.last
  cases k with
  | nil => injection e with e; rw [e] at hk; exact hk h5
  | cons x k => injection e with _ e; simp at e
theorem Tl.next {t : Tk} {l : List Tk} (h : Tl (t :: l)) (hk : t.kind ≠ 5) : Tl l := h.tail (h.more hk)
theorem fail_code {a o : Int} {l : List Tk} {e : Int} : ((rd a o l).fail e).code = e := by unfold Rd.fail; rw [if_pos rfl]
theorem must_inv {a o : Int} {l : List Tk} {s : Str} (hl : Tl l) (h : ((rd a o l).must s).code = 0) : ∃ t rest, l = t :: rest ∧ t.sg s ∧ Tl rest ∧ (rd a o l).must s = rd a o rest := by
  cases l with
  | nil => exact absurd rfl hl.ne
  | cons t rest =>
    by_cases hi : (rd a o (t :: rest)).is s = true
    · have ht := (rd_is a o t rest s).1 hi
      have hr := hl.next (sg_kind ht).2.2
      exact ⟨t, rest, rfl, ht, hr, rd_must a o hr.ne ht⟩
    · unfold Rd.must at h
      rw [if_neg hi, fail_code] at h
      exact absurd h (by decide)
theorem of_inv {a o : Int} {l : List Tk} {k : Int} (hl : Tl l) (hk0 : k ≠ 0) (hk5 : k ≠ 5) (h : ((rd a o l).of k).2.code = 0) : ∃ t rest, l = t :: rest ∧ t.kind = k ∧ Tl rest ∧ (rd a o l).of k = (t, rd a o rest) := by
  cases l with
  | nil => exact absurd rfl hl.ne
  | cons t rest =>
    by_cases hi : t.kind = k
    · have hr := hl.next (by rw [hi]; exact hk5)
      exact ⟨t, rest, rfl, hi, hr, rd_of a o hr.ne hi⟩
    · exfalso
      unfold Rd.of Rd.want at h
      rw [rd_next, if_neg hi] at h
      have hb : ((rd a o (t :: rest)).fail 40).code ≠ 0 := by rw [fail_code]; decide
      rw [bad_take hb] at h
      exact hb h
theorem name_inv {a o : Int} {l : List Tk} (hl : Tl l) (h : (rd a o l).name.2.code = 0) : ∃ t rest, l = t :: rest ∧ t.kind = 1 ∧ Tl rest ∧ (rd a o l).name = ((t.text, t.pl), rd a o rest) := by
  obtain ⟨t, rest, h1, h2, h3, h4⟩ := of_inv (k := 1) hl (by decide) (by decide) h
  exact ⟨t, rest, h1, h2, h3, by unfold Rd.name; rw [h4]⟩
/-- What is no error at the end was none ahead. -/
theorem code_of {r r' : Rd} (h : r.code ≠ 0 → r' = r) (h' : r'.code = 0) : r.code = 0 := Classical.byContradiction fun e => by rw [h e] at h'; exact e h'
theorem pair_inv {a o : Int} {l : List Tk} (hl : Tl l) (h : (rd a o l).pair.2.code = 0) : ∃ t u v rest, l = t :: u :: v :: rest ∧ t.kind = 1 ∧ u.sg [46] ∧ v.kind = 1 ∧ Tl rest ∧ (rd a o l).pair = ((t.text, v.text), rd a o rest) := by
  have h3 : ((rd a o l).name.2.must [46]).name.2.code = 0 := h
  have h2 := code_of (fun e => by rw [bad_name e]) h3
  have h1 : (rd a o l).name.2.code = 0 := code_of (fun e => bad_must e _) h2
  obtain ⟨t, r1, rfl, t1, l1, e1⟩ := name_inv hl h1
  rw [e1] at h2 h3
  obtain ⟨u, r2, rfl, t2, l2, e2⟩ := must_inv l1 h2
  dsimp only at h3
  rw [e2] at h3
  obtain ⟨v, r3, rfl, t3, l3, e3⟩ := name_inv l2 h3
  exact ⟨t, u, v, r3, rfl, t1, t2, t3, l3, rd_pair a o l3.ne ⟨t1, rfl⟩ t2 ⟨t3, rfl⟩⟩
theorem oper_inv {r : Rd} : ∀ {L : List (Str × Int)}, (r.oper L).1.2 = true → ∃ p ∈ L, r.is p.1 = true ∧ r.oper L = ((p.2, true), r.take)
  | [], h => by cases h
  | p :: L, h => by
    by_cases hi : r.is p.1 = true
    · exact ⟨p, by simp, hi, by rw [Rd.oper, if_pos hi]⟩
    · rw [Rd.oper, if_neg hi] at h ⊢
      obtain ⟨q, h1, h2, h3⟩ := oper_inv h
      exact ⟨q, List.mem_cons_of_mem _ h1, h2, h3⟩
theorem oper_false {r : Rd} : ∀ {L : List (Str × Int)}, ¬ (r.oper L).1.2 = true → r.oper L = ((0, false), r)
  | [], h => rfl
  | p :: L, h => by
    by_cases hi : r.is p.1 = true
    · rw [Rd.oper, if_pos hi] at h; exact absurd rfl h
    · rw [Rd.oper, if_neg hi] at h ⊢; exact oper_false h
/-- The grammar's level. -/
def lvL : Nat → Nat
  | 0 => 1
  | 1 => 2
  | 2 => 3
  | 3 => 5
  | _ => 6
def loL : Nat → Nat
  | 0 => 1
  | 1 => 2
  | _ => 5
theorem lvl_rules : ∀ q : Nat, q ≤ 3 → ∀ p ∈ lvl q, ∃ rl, (p.2, rl, p.1, loL q, lvL (q + 1)) ∈ rules ∧ lvL q ≤ rl
  | 0, _ => fun p hp => ⟨1, by
      simp only [lvl, lvls, List.getD_cons_succ, List.getD_cons_zero, List.mem_cons, List.not_mem_nil, or_false] at hp
      subst hp; decide, by decide⟩
  | 1, _ => fun p hp => ⟨2, by
      simp only [lvl, lvls, List.getD_cons_succ, List.getD_cons_zero, List.mem_cons, List.not_mem_nil, or_false] at hp
      subst hp; decide, by decide⟩
  | 2, _ => fun p hp => ⟨4, by
      simp only [lvl, lvls, List.getD_cons_succ, List.getD_cons_zero, List.mem_cons, List.not_mem_nil, or_false] at hp
      rcases hp with rfl | rfl | rfl | rfl | rfl | rfl <;> decide, by decide⟩
  | 3, _ => fun p hp => ⟨5, by
      simp only [lvl, lvls, List.getD_cons_succ, List.getD_cons_zero, List.mem_cons, List.not_mem_nil, or_false] at hp
      rcases hp with rfl | rfl <;> decide, by decide⟩
  | n + 4, h => by omega
/-- What the parser gives at a level, it having read some tokens ahead. -/
abbrev Der (L : Nat) (ts0 : List Tk) (a o : Int) (l : List Tk) (q : Ex × Rd) : Prop := ∃ ts rest d, l = ts ++ rest ∧ Tl rest ∧ q.2 = rd a o rest ∧ DE L (ts0 ++ ts) q.1 d ∧ o + d ≤ 64
abbrev Sound (n : Nat) : Prop := ∀ (p : Nat) (a o : Int) (l : List Tk), p ≤ 4 → l.length = n → 0 ≤ o → o ≤ 64 → Tl l → ((rd a o l).bin p).2.code = 0 → Der (lvL p) [] a o l ((rd a o l).bin p)
theorem sound_loop {n : Nat} (ih : ∀ m < n, Sound m) (p : Nat) (hp : p ≤ 3) : ∀ (k : Nat) (a o : Int) (l : List Tk) (ts0 : List Tk) (e : Ex) (d0 : Nat), l.length = k → k < n → 0 ≤ o → o ≤ 64 → Tl l → DE (loL p) ts0 e d0 → o + d0 ≤ 64 →
    ((rd a o l).loop p e).2.code = 0 → Der (lvL p) ts0 a o l ((rd a o l).loop p e) := by
  intro k
  induction k using Nat.strongRecOn with
  | _ k ihk =>
    intro a o l ts0 e d0 hlk hk h0 h1 hl hd ho hc
    have hle := Rd.loop_eq (hl.ok (a := a) h0 h1) hp e
    by_cases hop : ((rd a o l).oper (lvl p)).1.2 = true
    · obtain ⟨pr, hpm, hi, he⟩ := oper_inv hop
      cases l with
      | nil => exact absurd rfl hl.ne
      | cons t l1 =>
        have ht := (rd_is a o t l1 _).1 hi
        have hl1 := hl.next (sg_kind ht).2.2
        rw [rd_take a o t hl1.ne] at he
        obtain ⟨rl, hrl, hlv⟩ := lvl_rules p hp pr hpm
        rw [he] at hle
        dsimp only at hle
        rw [if_pos rfl] at hle
        have hlen : l1.length < k := by rw [← hlk]; simp
        have hcb : ((rd a o l1).bin (p + 1)).2.code = 0 := by
          rw [hle] at hc
          split at hc
          · exact hc
          · exact code_of (fun e => by rw [bad_loop e]) hc
        obtain ⟨ts, rest, d, e1, e2, e3, e4, e5⟩ := ih l1.length (by omega) (p + 1) a o l1 (by omega) rfl h0 h1 hl1 hcb
        rw [List.nil_append] at e4
        have hb : DE (lvL p) (ts0 ++ t :: ts) ⟨pr.2, [], [], 0, [e, ((rd a o l1).bin (p + 1)).1], e.pl⟩ (max d0 d) := .bin hrl hlv hd ht e4
        split at hle
        · rw [hle]
          exact ⟨t :: ts, rest, max d0 d, by rw [e1]; rfl, e2, e3, hb, by omega⟩
        · rename_i hno
          rw [e3] at hle
          rw [hle] at hc ⊢
          have hlo : loL p = lvL p := by
            have : p = 0 ∨ p = 1 ∨ p = 2 ∨ p = 3 := by omega
            rcases this with rfl | rfl | rfl | rfl
            · rfl
            · rfl
            · exact absurd rfl hno
            · rfl
          have hln : rest.length < k := by rw [e1] at hlen; rw [List.length_append] at hlen; omega
          obtain ⟨us, rest', d', f1, f2, f3, f4, f5⟩ := ihk rest.length hln a o rest (ts0 ++ t :: ts) _ (max d0 d) rfl (by omega) h0 h1 e2 (by rw [hlo]; exact hb) (by omega) hc
          exact ⟨t :: ts ++ us, rest', d', by rw [e1, f1]; simp, f2, f3, by rw [List.append_assoc] at f4; exact f4, f5⟩
    · rw [if_neg hop, oper_false hop] at hle
      rw [hle]
      refine ⟨[], l, d0, rfl, hl, rfl, ?_, ho⟩
      rw [List.append_nil]
      refine hd.mono ?_
      have : p = 0 ∨ p = 1 ∨ p = 2 ∨ p = 3 := by omega
      rcases this with rfl | rfl | rfl | rfl <;> decide
theorem enter_inv {a o : Int} {t : Tk} {l : List Tk} (hl : l ≠ []) {r' : Rd} (h : (rd a o (t :: l)).enter.code ≠ 0 → r' = (rd a o (t :: l)).enter) (hc : r'.code = 0) : o < 64 ∧ (rd a o (t :: l)).enter = rd a (o + 1) l := by
  have hc' := code_of h hc
  by_cases h64 : 64 ≤ o
  · have := (rd_enter_deep a t l h64).1; omega
  · exact ⟨by omega, rd_enter a t hl (by omega)⟩
theorem rd_leave' {r : Rd} {a o : Int} {l : List Tk} (h : r = rd a (o + 1) l) : r.leave = rd a o l := by rw [h, rd_leave]
theorem sound_term {n : Nat} (ih : ∀ m < n, Sound m) (a o : Int) (l : List Tk) (hn : l.length = n) (h0 : 0 ≤ o) (h1 : o ≤ 64) (hl : Tl l) (hc : (rd a o l).term.2.code = 0) : Der 6 [] a o l (rd a o l).term := by
  have hT := Rd.term_eq (hl.ok (a := a) h0 h1)
  cases l with
  | nil => exact absurd rfl hl.ne
  | cons t l1 =>
  rw [List.length_cons] at hn
  rw [rd_next] at hT
  by_cases hk2 : t.kind = 2
  · have hl1 := hl.next (by omega)
    rw [if_pos hk2, rd_take a o t hl1.ne] at hT
    by_cases hs : (rd a o l1).is [42] = true
    · rw [if_pos hs] at hT
      cases l1 with
      | nil => exact absurd rfl hl1.ne
      | cons u l2 =>
        rw [List.length_cons] at hn
        have hu := (rd_is a o u l2 _).1 hs
        have hl2 := hl1.next (sg_kind hu).2.2
        rw [hT] at hc ⊢
        have hc' : (rd a o (u :: l2)).enter.term.2.code = 0 := hc
        obtain ⟨h64, he⟩ := enter_inv hl2.ne (fun e => bad_term e) hc'
        rw [he, ← Rd.bin4 (hl2.ok (by omega) (by omega))] at hc' ⊢
        obtain ⟨ts, rest, d, e1, e2, e3, e4, e5⟩ := ih l2.length (by omega) 4 a (o + 1) l2 (by decide) rfl (by omega) (by omega) hl2 hc'
        exact ⟨t :: u :: ts, rest, d + 1, by rw [e1]; rfl, e2, rd_leave' e3, .mul ⟨hk2, rfl⟩ hu e4, by omega⟩
    · rw [if_neg hs] at hT
      rw [hT]
      exact ⟨[t], l1, 0, rfl, hl1, rfl, .num ⟨hk2, rfl⟩, by omega⟩
  rw [if_neg hk2] at hT
  by_cases hk1 : t.kind = 1
  · rw [if_pos hk1] at hT
    rw [hT] at hc ⊢
    obtain ⟨t', u, v, rest, e0, t1, t2, t3, e2, e3⟩ := pair_inv hl hc
    injection e0 with e0 e0'
    subst e0
    rw [e3]
    exact ⟨[t, u, v], rest, 0, by rw [e0']; rfl, e2, rfl, .var ⟨t1, rfl⟩ t2 ⟨t3, rfl⟩, by omega⟩
  rw [if_neg hk1] at hT
  by_cases hs : (rd a o (t :: l1)).is [45] = true
  · rw [if_pos hs] at hT
    have ht := (rd_is a o t l1 _).1 hs
    have hl1 := hl.next (sg_kind ht).2.2
    rw [hT] at hc ⊢
    have hc' : (rd a o (t :: l1)).enter.term.2.code = 0 := hc
    obtain ⟨h64, he⟩ := enter_inv hl1.ne (fun e => bad_term e) hc'
    rw [he, ← Rd.bin4 (hl1.ok (by omega) (by omega))] at hc' ⊢
    obtain ⟨ts, rest, d, e1, e2, e3, e4, e5⟩ := ih l1.length (by omega) 4 a (o + 1) l1 (by decide) rfl (by omega) (by omega) hl1 hc'
    exact ⟨t :: ts, rest, d + 1, by rw [e1]; rfl, e2, rd_leave' e3, .neg ht e4, by omega⟩
  rw [if_neg hs] at hT
  by_cases hs : (rd a o (t :: l1)).is [40] = true
  · rw [if_pos hs] at hT
    have ht := (rd_is a o t l1 _).1 hs
    have hl1 := hl.next (sg_kind ht).2.2
    rw [hT] at hc ⊢
    have hc' : ((rd a o (t :: l1)).enter.bin 0).2.code = 0 := code_of (fun e => bad_must e _) hc
    obtain ⟨h64, he⟩ := enter_inv hl1.ne (fun e => bad_bin e _) hc'
    have hc2 : (((rd a o (t :: l1)).enter.bin 0).2.must [41]).code = 0 := hc
    rw [he] at hc' hc2 ⊢
    obtain ⟨ts, rest, d, e1, e2, e3, e4, e5⟩ := ih l1.length (by omega) 0 a (o + 1) l1 (by decide) rfl (by omega) (by omega) hl1 hc'
    rw [e3] at hc2
    obtain ⟨u, rest', g1, g2, g3, g4⟩ := must_inv e2 hc2
    refine ⟨t :: (ts ++ [u]), rest', d + 1, by rw [e1, g1]; simp, g3, ?_, .par ht e4 g2, by omega⟩
    dsimp only
    rw [e3, g4, rd_leave]
  rw [if_neg hs] at hT
  by_cases hs : (rd a o (t :: l1)).is [116, 114, 117, 101] = true
  · rw [if_pos hs] at hT
    have ht := (rd_is a o t l1 _).1 hs
    have hl1 := hl.next (sg_kind ht).2.2
    rw [rd_take a o t hl1.ne] at hT
    rw [hT]
    exact ⟨[t], l1, 0, rfl, hl1, rfl, .tru ht, by omega⟩
  rw [if_neg hs] at hT
  by_cases hs : (rd a o (t :: l1)).is [102, 97, 108, 115, 101] = true
  · rw [if_pos hs] at hT
    have ht := (rd_is a o t l1 _).1 hs
    have hl1 := hl.next (sg_kind ht).2.2
    rw [rd_take a o t hl1.ne] at hT
    rw [hT]
    exact ⟨[t], l1, 0, rfl, hl1, rfl, .fls ht, by omega⟩
  rw [if_neg hs] at hT
  rw [hT] at hc
  have hc : ((rd a o (t :: l1)).fail 40).code = 0 := hc
  rw [fail_code] at hc
  exact absurd hc (by decide)
theorem DE.ne {L : Nat} {ts : List Tk} {e : Ex} {d : Nat} (h : DE L ts e d) : 0 < ts.length := by
  obtain ⟨t, us, e, _⟩ := h.head; rw [e]; simp
theorem sound (n : Nat) : Sound n := by
  induction n using Nat.strongRecOn with
  | _ n ih =>
    intro p a o l hp hn h0 h1 hl hc
    have key : ∀ k p, p + k = 4 → ((rd a o l).bin p).2.code = 0 → Der (lvL p) [] a o l ((rd a o l).bin p) := by
      intro k
      induction k with
      | zero =>
        intro p hpk hc
        have : p = 4 := by omega
        subst this
        rw [Rd.bin4 (hl.ok h0 h1)] at hc ⊢
        exact sound_term ih a o l hn h0 h1 hl hc
      | succ k ihk =>
        intro p hpk hc
        by_cases hno : p = 2 ∧ (rd a o l).is [33] = true
        · obtain ⟨rfl, hi⟩ := hno
          have hB := Rd.binNot (hl.ok h0 h1) hi
          cases l with
          | nil => exact absurd rfl hl.ne
          | cons t l1 =>
          rw [List.length_cons] at hn
          have ht := (rd_is a o t l1 _).1 hi
          have hl1 := hl.next (sg_kind ht).2.2
          rw [hB] at hc ⊢
          have hc' : ((rd a o (t :: l1)).enter.bin 2).2.code = 0 := hc
          obtain ⟨h64, he⟩ := enter_inv hl1.ne (fun e => bad_bin e _) hc'
          rw [he] at hc' ⊢
          obtain ⟨ts, rest, d, e1, e2, e3, e4, e5⟩ := ih l1.length (by omega) 2 a (o + 1) l1 (by decide) rfl (by omega) (by omega) hl1 hc'
          exact ⟨t :: ts, rest, d + 1, by rw [e1]; rfl, e2, rd_leave' e3, .not (by decide) ht e4, by omega⟩
        · have hB := Rd.bin_eq (hl.ok (a := a) h0 h1) (by omega) hno
          rw [hB] at hc
          have hc1 := code_of (fun e => by rw [bad_loop e]) hc
          obtain ⟨ts, rest, d, e1, e2, e3, e4, e5⟩ := ihk (p + 1) (by omega) hc1
          rw [List.nil_append] at e4
          rw [hB]
          rw [e3] at hc ⊢
          have hlen := e4.ne
          have hln : l.length = ts.length + rest.length := by rw [e1, List.length_append]
          have hlo : loL p ≤ lvL (p + 1) := by
            have : p = 0 ∨ p = 1 ∨ p = 2 ∨ p = 3 := by omega
            rcases this with rfl | rfl | rfl | rfl <;> decide
          obtain ⟨us, rest', d', f1, f2, f3, f4, f5⟩ := sound_loop ih p (by omega) rest.length a o rest ts _ d rfl (by omega) h0 h1 e2 (e4.mono hlo) e5 hc
          exact ⟨ts ++ us, rest', d', by rw [e1, f1]; simp, f2, f3, f4, f5⟩
    exact key (4 - p) p (by omega) hc
/-- What is parsed is derived. -/
theorem expr_sound {a o : Int} {l : List Tk} (h0 : 0 ≤ o) (h1 : o ≤ 64) (hl : Tl l) (hc : (rd a o l).expr.2.code = 0) : ∃ ts rest d, l = ts ++ rest ∧ Tl rest ∧ (rd a o l).expr.2 = rd a o rest ∧ DE 1 ts (rd a o l).expr.1 d ∧ o + d ≤ 64 :=
  sound l.length 0 a o l (by decide) rfl h0 h1 hl hc
end Go.Proofs.YtmflfcbebeikcaaGreatDoor.Q

namespace Go.Proofs.YtmflfcbebeikcaaGreatDoor.Q
open Go.RowKit
variable [Amb]

def spanN (p : Int → Bool) : Str → Nat
  | [] => 0
  | b :: r => if p b.toNat = true then spanN p r + 1 else 0
theorem spanF_N (p : Int → Bool) : ∀ (l : Str) (k : Nat), spanF p k l = k + spanN p l
  | [], k => rfl
  | b :: r, k => by
    rw [spanF, spanN]
    split
    · rw [spanF_N p r (k + 1)]; omega
    · rfl
theorem spanN_le (p : Int → Bool) : ∀ l : Str, spanN p l ≤ l.length
  | [] => Nat.le_refl _
  | b :: r => by rw [spanN]; split <;> simp; exact spanN_le p r
theorem spanN_take (p : Int → Bool) : ∀ l : Str, spanN p (l.take (spanN p l)) = spanN p l
  | [] => rfl
  | b :: r => by
    rw [spanN]
    split
    · rename_i h; rw [List.take_succ_cons, spanN, if_pos h, spanN_take p r]
    · rfl
/-- The next byte is not of the kind. -/
def noHd (p : Int → Bool) (l : Str) : Prop := ∀ b ∈ l.head?, p b.toNat = false
theorem spanN_app (p : Int → Bool) : ∀ (x rest : Str), spanN p x = x.length → noHd p rest → spanN p (x ++ rest) = x.length
  | [], rest, _, h => by
    cases rest with
    | nil => rfl
    | cons b r => rw [List.nil_append, spanN, h b rfl]; rfl
  | b :: x, rest, h1, h => by
    rw [spanN] at h1
    split at h1
    · rename_i hb
      rw [List.cons_append, spanN, if_pos hb, spanN_app p x rest (by simpa using h1) h]; rfl
    · simp at h1
/-- A step of the scanner: an error or 0, how many bytes, which token (its kind, its number). -/
def stepT (w : Str) : Int × Nat × Option (Int × Int) :=
  if classS (w.headD 0).toNat = 1 then (0, 1, none) else if classS (w.headD 0).toNat = 2 then (0, spanN notNl w, none)
  else if classS (w.headD 0).toNat = 3 then (if spanN inNameS w > 32 then (12, 0, none) else if isWord (w.take (spanN inNameS w)) = true then (0, spanN inNameS w, some (3, 0)) else (0, spanN inNameS w, some (1, 0)))
  else if classS (w.headD 0).toNat = 4 then (if w.headD 0 = 48 ∧ spanN isDig w > 1 then (11, 0, none) else match digS 0 (w.take (spanN isDig w)) with
    | some v => (0, spanN isDig w, some (2, v))
    | none => (11, 0, none))
  else if classS (w.headD 0).toNat = 5 then (if (twos.any fun t => t.isPrefixOf w) = true then (0, 2, some (4, 0)) else if w.headD 0 = 38 ∨ w.headD 0 = 124 then (10, 0, none) else (0, 1, some (4, 0)))
  else (10, 0, none)
def putT (w : Str) (a : Nat) (l : List Tk) (q : Int × Nat × Option (Int × Int)) : LexR := (q.1, a + q.2.1, match q.2.2 with
  | some kv => l ++ [⟨kv.1, w.take q.2.1, kv.2, a⟩]
  | none => l)
theorem cut_drop (s : Str) (a n : Nat) : cut s a (a + n) = (s.drop a).take n := by unfold cut; rw [List.drop_take]; congr 1; omega
theorem nextS_T (s : Str) (a : Nat) (l : List Tk) : nextS s a l = putT (s.drop a) a l (stepT (s.drop a)) := by
  unfold nextS stepT
  dsimp only
  split
  · rfl
  split
  · rw [spanF_N]; rfl
  split
  · unfold nameS
    dsimp only
    rw [spanF_N, cut_drop, Nat.add_sub_cancel_left]
    split
    · rfl
    · split <;> rfl
  split
  · unfold numberS
    dsimp only
    rw [spanF_N, cut_drop]
    have e : (a + spanN isDig (s.drop a) > a + 1) ↔ (spanN isDig (s.drop a) > 1) := by simp
    by_cases hz : (s.drop a).headD 0 = 48 ∧ spanN isDig (s.drop a) > 1
    · rw [if_pos ⟨hz.1, e.2 hz.2⟩, if_pos hz]; rfl
    · rw [if_neg (fun h => hz ⟨h.1, e.1 h.2⟩), if_neg hz]
      cases digS 0 (List.take (spanN isDig (List.drop a s)) (List.drop a s)) <;> rfl
  split
  · unfold signS
    rw [cut_drop, cut_drop]
    split
    · rfl
    · split <;> rfl
  · rfl
/-- What is left of a text, its place, its tokens (but for the end). -/
inductive Lx : Str → Nat → List Tk → Prop
  | nil (a : Nat) : Lx [] a []
  | skip {w : Str} {a n : Nat} {ts : List Tk} (hw : w ≠ []) (h : stepT w = (0, n, none)) (k : Lx (w.drop n) (a + n) ts) : Lx w a ts
  | tok {w : Str} {a n : Nat} {k v : Int} {ts : List Tk} (hw : w ≠ []) (h : stepT w = (0, n, some (k, v))) (g : Lx (w.drop n) (a + n) ts) : Lx w a (⟨k, w.take n, v, a⟩ :: ts)
def endT (s : Str) : Tk := ⟨5, [], 0, s.length⟩
theorem Lx.scan {s w : Str} {a : Nat} {ts : List Tk} (h : Lx w a ts) : w = s.drop a → ∀ (f : Nat) (l : List Tk), a ≤ s.length → s.length - a < f → scanF s f a l = (l ++ ts ++ [endT s], 0, 0) := by
  induction h with
  | nil a =>
    intro e f l ha hf
    have hl : s.length ≤ a := by have := congrArg List.length e; simp at this; omega
    cases f with
    | zero => omega
    | succ f => rw [scanF, if_neg (by omega), List.append_nil]; rfl
  | @skip w a n ts hw h g ih =>
    intro e f l ha hf
    subst e
    have hlt : a < s.length := by
      rcases Nat.lt_or_ge a s.length with h1 | h1
      · exact h1
      · exact absurd (List.drop_of_length_le h1) hw
    have hn := nextS_T s a l
    rw [h] at hn
    have h0 : (nextS s a l).1 = 0 := by rw [hn]; rfl
    obtain ⟨g1, g2, _⟩ := next_ok hlt h0
    cases f with
    | zero => omega
    | succ f =>
      rw [scanF, if_pos hlt, if_pos h0]
      rw [hn] at g1 g2 ⊢
      dsimp only [putT] at g1 g2 ⊢
      rw [ih (by rw [List.drop_drop]) f l g2 (by omega)]
  | @tok w a n k v ts hw h g ih =>
    intro e f l ha hf
    subst e
    have hlt : a < s.length := by
      rcases Nat.lt_or_ge a s.length with h1 | h1
      · exact h1
      · exact absurd (List.drop_of_length_le h1) hw
    have hn := nextS_T s a l
    rw [h] at hn
    have h0 : (nextS s a l).1 = 0 := by rw [hn]; rfl
    obtain ⟨g1, g2, _⟩ := next_ok hlt h0
    cases f with
    | zero => omega
    | succ f =>
      rw [scanF, if_pos hlt, if_pos h0]
      rw [hn] at g1 g2 ⊢
      dsimp only [putT] at g1 g2 ⊢
      rw [ih (by rw [List.drop_drop]) f _ g2 (by omega)]
      simp
theorem Lx.all {s : Str} {ts : List Tk} (h : Lx s 0 ts) (hs : s.length ≤ 20000) : scanS s = (ts ++ [endT s], 0, 0) := by
  unfold scanS
  rw [if_neg (by omega), h.scan rfl (s.length + 1) [] (Nat.zero_le _) (by omega)]; rfl
theorem scanF_Lx (s : Str) : ∀ (f a : Nat) (l : List Tk), a ≤ s.length → s.length - a < f → (scanF s f a l).2.1 = 0 → ∃ ts, Lx (s.drop a) a ts ∧ scanF s f a l = (l ++ ts ++ [endT s], 0, 0)
  | 0, a, l, _, h, _ => by omega
  | f + 1, a, l, ha, hf, h => by
    rw [scanF] at h ⊢
    by_cases hlt : a < s.length
    · rw [if_pos hlt] at h ⊢
      by_cases h0 : (nextS s a l).1 = 0
      · rw [if_pos h0] at h ⊢
        obtain ⟨g1, g2, _⟩ := next_ok hlt h0
        obtain ⟨ts, k1, k2⟩ := scanF_Lx s f _ _ g2 (by omega) h
        have hw : s.drop a ≠ [] := by intro e; have := congrArg List.length e; simp at this; omega
        have hn := nextS_T s a l
        rw [hn] at h0 k1 k2 g1 ⊢
        generalize hq : stepT (s.drop a) = q at h0 k1 k2 g1 ⊢
        obtain ⟨e, n, o⟩ := q
        dsimp only [putT] at h0 k1 k2 g1 ⊢
        subst h0
        cases o with
        | none => exact ⟨ts, .skip hw hq (by rw [List.drop_drop]; exact k1), k2⟩
        | some kv =>
          obtain ⟨k, v⟩ := kv
          exact ⟨_, .tok hw hq (by rw [List.drop_drop]; exact k1), by rw [k2]; simp⟩
      · rw [if_neg h0] at h; exact absurd h h0
    · rw [if_neg hlt]
      refine ⟨[], ?_, by simp [endT]⟩
      rw [List.drop_of_length_le (by omega)]; exact .nil a
theorem scanS_Lx {s : Str} (h : (scanS s).2.1 = 0) : s.length ≤ 20000 ∧ ∃ ts, Lx s 0 ts ∧ scanS s = (ts ++ [endT s], 0, 0) := by
  unfold scanS at h ⊢
  by_cases hs : s.length > 20000
  · rw [if_pos hs] at h; exact absurd h (by decide)
  · rw [if_neg hs] at h ⊢
    obtain ⟨ts, h1, h2⟩ := scanF_Lx s (s.length + 1) 0 [] (Nat.zero_le _) (by omega) h
    exact ⟨by omega, ts, h1, by rw [h2]; rfl⟩
/-! ### single tokens -/
/-- A text that is one token. -/
def isTok (k : Int) (x : Str) (v : Int) : Prop := x ≠ [] ∧ stepT x = (0, x.length, some (k, v))
/-- What may stand behind a token. -/
def fol (k : Int) (x rest : Str) : Prop := ∀ b ∈ rest.head?, (k = 1 ∨ k = 3 → inNameS b.toNat = false) ∧ (k = 2 → isDig b.toNat = false) ∧ (k = 4 → x.length = 1 → x ++ [b] ∉ twos)
theorem twos_two {t : Str} (h : t ∈ twos) : ∃ b c, t = [b, c] := by
  simp only [twos, List.mem_cons, List.not_mem_nil, or_false] at h
  rcases h with rfl | rfl | rfl | rfl | rfl | rfl | rfl <;> exact ⟨_, _, rfl⟩
theorem prefix_app {t x rest : Str} (h : t.isPrefixOf x = true) : t.isPrefixOf (x ++ rest) = true := by
  rw [List.isPrefixOf_iff_prefix] at h ⊢
  exact h.trans (List.prefix_append x rest)
theorem isTok.app {k : Int} {x : Str} {v : Int} (h : isTok k x v) {rest : Str} (hf : fol k x rest) : stepT (x ++ rest) = (0, x.length, some (k, v)) := by
  obtain ⟨hx, h⟩ := h
  cases x with
  | nil => exact absurd rfl hx
  | cons b x =>
  unfold stepT at h ⊢
  rw [List.headD_cons] at h
  rw [List.cons_append, List.headD_cons, ← List.cons_append]
  generalize classS ((b.toNat : Nat) : Int) = c at h ⊢
  by_cases h1 : c = 1
  · rw [if_pos h1] at h; exact absurd (congrArg (fun q => q.2.2) h) (by simp)
  rw [if_neg h1] at h ⊢
  by_cases h2 : c = 2
  · rw [if_pos h2] at h; exact absurd (congrArg (fun q => q.2.2) h) (by simp)
  rw [if_neg h2] at h ⊢
  by_cases h3 : c = 3
  · rw [if_pos h3] at h ⊢
    have key : spanN inNameS (b :: x) = (b :: x).length ∧ (k = 1 ∨ k = 3) := by
      split at h
      · exact absurd (congrArg Prod.fst h) (by simp)
      · split at h
        · exact ⟨congrArg (fun q => q.2.1) h, .inr (by have := congrArg (fun q => q.2.2) h; simp at this; exact this.1.symm)⟩
        · exact ⟨congrArg (fun q => q.2.1) h, .inl (by have := congrArg (fun q => q.2.2) h; simp at this; exact this.1.symm)⟩
    have ha := spanN_app inNameS (b :: x) rest key.1 (fun b hb => (hf b hb).1 key.2)
    rw [ha, List.take_left]
    rw [key.1, List.take_length] at h
    exact h
  rw [if_neg h3] at h ⊢
  by_cases h4 : c = 4
  · rw [if_pos h4] at h ⊢
    have key : spanN isDig (b :: x) = (b :: x).length ∧ k = 2 := by
      split at h
      · exact absurd (congrArg Prod.fst h) (by simp)
      · split at h
        · exact ⟨congrArg (fun q => q.2.1) h, by have := congrArg (fun q => q.2.2) h; simp at this; exact this.1.symm⟩
        · exact absurd (congrArg Prod.fst h) (by simp)
    have ha := spanN_app isDig (b :: x) rest key.1 (fun b hb => (hf b hb).2.1 key.2)
    rw [ha, List.take_left]
    rw [key.1, List.take_length] at h
    exact h
  rw [if_neg h4] at h ⊢
  by_cases h5 : c = 5
  · rw [if_pos h5] at h ⊢
    by_cases ht : (twos.any fun t => t.isPrefixOf (b :: x)) = true
    · rw [if_pos ht] at h
      rw [if_pos]
      · exact h
      · obtain ⟨t, m1, m2⟩ := List.any_eq_true.1 ht
        exact List.any_eq_true.2 ⟨t, m1, prefix_app m2⟩
    · rw [if_neg ht] at h
      have key : (b :: x).length = 1 ∧ k = 4 := by
        split at h
        · exact absurd (congrArg Prod.fst h) (by simp)
        · exact ⟨(congrArg (fun q => q.2.1) h).symm, by have := congrArg (fun q => q.2.2) h; simp at this; exact this.1.symm⟩
      have hx0 : x = [] := by have := key.1; simp at this; exact this
      subst hx0
      rw [if_neg]
      · exact h
      · intro hany
        obtain ⟨t, m1, m2⟩ := List.any_eq_true.1 hany
        obtain ⟨c0, c1, rfl⟩ := twos_two m1
        cases rest with
        | nil => simp [List.isPrefixOf] at m2
        | cons d rest =>
          simp only [List.cons_append, List.nil_append, List.isPrefixOf, Bool.and_true, Bool.and_eq_true, beq_iff_eq] at m2
          have := (hf d rfl).2.2 key.2 key.1
          rw [← m2.1, ← m2.2] at this
          exact this m1
  · rw [if_neg h5] at h; exact absurd (congrArg Prod.fst h) (by show ¬ (10 : Int) = 0; decide)
theorem Lx.put {k : Int} {x : Str} {v : Int} {rest : Str} {a : Nat} {ts : List Tk} (h : isTok k x v) (hf : fol k x rest) (g : Lx rest (a + x.length) ts) : Lx (x ++ rest) a (⟨k, x, v, a⟩ :: ts) := by
  have := Lx.tok (a := a) (ts := ts) (by simp [h.1]) (h.app hf) (by rw [List.drop_left]; exact g)
  rwa [List.take_left] at this
theorem Lx.blank {b : UInt8} {rest : Str} {a : Nat} {ts : List Tk} (hb : classS b.toNat = 1) (g : Lx rest (a + 1) ts) : Lx (b :: rest) a ts := by
  refine .skip (n := 1) (by simp) ?_ g
  unfold stepT
  rw [List.headD_cons, if_pos hb]
/-- What was scanned as a token is one by itself. -/
theorem tok_self {w : Str} {n : Nat} {k v : Int} (hw : w ≠ []) (h : stepT w = (0, n, some (k, v))) : isTok k (w.take n) v ∧ (w.take n).length = n := by
  cases w with
  | nil => exact absurd rfl hw
  | cons b x =>
  have hn : 0 < n ∧ n ≤ (b :: x).length := by
    have h1 := nextS_T (b :: x) 0 []
    rw [List.drop_zero, h] at h1
    have h2 := next_ok (s := b :: x) (a := 0) (l := []) (by simp) (by rw [h1]; rfl)
    rw [h1] at h2
    dsimp only [putT] at h2
    omega
  have hlen : ((b :: x).take n).length = n := by rw [List.length_take]; omega
  refine ⟨⟨by intro e; rw [e] at hlen; simp at hlen; omega, ?_⟩, hlen⟩
  rw [hlen]
  have hhd : ((b :: x).take n).headD 0 = b := by
    cases n with
    | zero => omega
    | succ n => rfl
  unfold stepT at h ⊢
  rw [hhd]
  rw [List.headD_cons] at h
  generalize classS ((b.toNat : Nat) : Int) = c at h ⊢
  by_cases h1 : c = 1
  · rw [if_pos h1] at h; exact absurd (congrArg (fun q => q.2.2) h) (by simp)
  rw [if_neg h1] at h ⊢
  by_cases h2 : c = 2
  · rw [if_pos h2] at h; exact absurd (congrArg (fun q => q.2.2) h) (by simp)
  rw [if_neg h2] at h ⊢
  by_cases h3 : c = 3
  · rw [if_pos h3] at h ⊢
    have key : spanN inNameS (b :: x) = n := by
      split at h
      · exact absurd (congrArg Prod.fst h) (by simp)
      · split at h <;> exact congrArg (fun q => q.2.1) h
    rw [← key, spanN_take, List.take_take, Nat.min_self]
    rw [← key] at h
    exact h
  rw [if_neg h3] at h ⊢
  by_cases h4 : c = 4
  · rw [if_pos h4] at h ⊢
    have key : spanN isDig (b :: x) = n := by
      split at h
      · exact absurd (congrArg Prod.fst h) (by simp)
      · split at h
        · exact congrArg (fun q => q.2.1) h
        · exact absurd (congrArg Prod.fst h) (by simp)
    rw [← key, spanN_take, List.take_take, Nat.min_self]
    rw [← key] at h
    exact h
  rw [if_neg h4] at h ⊢
  by_cases h5 : c = 5
  · rw [if_pos h5] at h ⊢
    by_cases ht : (twos.any fun t => t.isPrefixOf (b :: x)) = true
    · rw [if_pos ht] at h
      have key : n = 2 := (congrArg (fun q => q.2.1) h).symm
      subst key
      rw [if_pos]
      · exact h
      · obtain ⟨t, m1, m2⟩ := List.any_eq_true.1 ht
        refine List.any_eq_true.2 ⟨t, m1, ?_⟩
        obtain ⟨c0, c1, rfl⟩ := twos_two m1
        rw [List.isPrefixOf_iff_prefix] at m2 ⊢
        exact List.prefix_take_iff.2 ⟨m2, by simp⟩
    · rw [if_neg ht] at h
      rw [if_neg]
      · exact h
      · intro hany
        obtain ⟨t, m1, m2⟩ := List.any_eq_true.1 hany
        refine ht (List.any_eq_true.2 ⟨t, m1, ?_⟩)
        rw [List.isPrefixOf_iff_prefix] at m2 ⊢
        exact m2.trans (List.take_prefix _ _)
  · rw [if_neg h5] at h; exact absurd (congrArg Prod.fst h) (by show ¬ (10 : Int) = 0; decide)
end Go.Proofs.YtmflfcbebeikcaaGreatDoor.Q

namespace Go.Proofs.YtmflfcbebeikcaaGreatDoor.Q
open Go.RowKit
variable [Amb]

/-- What each single step of a reader keeps. -/
structure Stable (I : Rd → Prop) : Prop where
  take : ∀ {r : Rd}, I r → I r.take
  fail : ∀ {r : Rd} {e : Int}, I r → e ≠ 0 → I (r.fail e)
  more : ∀ {r : Rd} {n : Int}, I r → I (r.more n)
  set : ∀ {r r' : Rd}, I r → I r' → r.code = 0 → r'.code = 0 → I ⟨40, r.hd.pl, r'.toks, r'.opn⟩
theorem bad_whole {r : Rd} (h : r.code ≠ 0) : r.whole.2 = r := by
  unfold Rd.whole Rd.may
  rw [if_neg (bad_is h _)]
  dsimp only
  rw [bad_of h (by decide)]
theorem Stable.may {I : Rd → Prop} (hI : Stable I) {r : Rd} (h : I r) {s : Str} : I (r.may s).2 := by unfold Rd.may; split; (exact hI.take h); (exact h)
theorem Stable.must {I : Rd → Prop} (hI : Stable I) {r : Rd} (h : I r) {s : Str} : I (r.must s) := by unfold Rd.must; split; (exact hI.take h); (exact hI.fail h (by decide))
theorem Stable.want {I : Rd → Prop} (hI : Stable I) {r : Rd} (h : I r) {k : Int} : I (r.want k) := by unfold Rd.want; split; (exact h); (exact hI.fail h (by decide))
theorem Stable.of {I : Rd → Prop} (hI : Stable I) {r : Rd} (h : I r) {k : Int} : I (r.of k).2 := hI.take (hI.want h)
theorem Stable.name {I : Rd → Prop} (hI : Stable I) {r : Rd} (h : I r) : I r.name.2 := hI.of h
theorem Stable.pair {I : Rd → Prop} (hI : Stable I) {r : Rd} (h : I r) : I r.pair.2 := hI.name (hI.must (hI.name h))
theorem Stable.room {I : Rd → Prop} (hI : Stable I) {r : Rd} (h : I r) {n most : Int} : I (r.room n most) := by unfold Rd.room; split; (exact hI.fail h (by decide)); (exact h)
theorem Stable.enter {I : Rd → Prop} (hI : Stable I) {r : Rd} (h : I r) : I r.enter := by
  unfold Rd.enter Rd.deep
  split
  · exact hI.take (hI.more (hI.fail h (by decide)))
  · exact hI.take (hI.more h)
theorem Stable.leave {I : Rd → Prop} (hI : Stable I) {r : Rd} (h : I r) : I r.leave := hI.more h
theorem Stable.oper {I : Rd → Prop} (hI : Stable I) {r : Rd} (h : I r) : ∀ l : List (Str × Int), I (r.oper l).2
  | [] => h
  | p :: l => by rw [Rd.oper]; split; (exact hI.take h); (exact hI.oper h l)
theorem Stable.exprF {I : Rd → Prop} (hI : Stable I) (f : Nat) : (∀ lv r, I r → I (binF f lv r).2) ∧ (∀ lv e r, I r → I (loopF f lv e r).2) ∧ (∀ r, I r → I (termF f r).2) := by
  induction f with
  | zero => exact ⟨fun lv r h => by rw [binF]; exact h, fun lv e r h => by rw [loopF]; exact h, fun r h => by rw [termF]; exact h⟩
  | succ f ih =>
    obtain ⟨i1, i2, i3⟩ := ih
    refine ⟨fun lv r h => ?_, fun lv e r h => ?_, fun r h => ?_⟩
    · rw [binF]
      split
      · exact i3 r h
      split
      · exact hI.leave (i1 2 _ (hI.enter h))
      · exact i2 _ _ _ (i1 _ r h)
    · rw [loopF]
      have ho := hI.oper h (lvls.getD lv ([], false)).1
      split
      · have hb := i1 (lv + 1) _ ho
        split
        · exact hb
        · exact i2 _ _ _ hb
      · exact ho
    · rw [termF]
      split
      · split
        · exact hI.leave (i3 _ (hI.enter (hI.take h)))
        · exact hI.take h
      split
      · exact hI.pair h
      split
      · exact hI.leave (i3 _ (hI.enter h))
      split
      · exact hI.leave (hI.must (i1 0 _ (hI.enter h)))
      split
      · exact hI.take h
      split
      · exact hI.take h
      · exact hI.fail h (by decide)
theorem Stable.expr {I : Rd → Prop} (hI : Stable I) {r : Rd} (h : I r) : I r.expr.2 := (hI.exprF _).1 0 r h
theorem Stable.wait {I : Rd → Prop} (hI : Stable I) {r : Rd} (h : I r) : I r.wait.2 := by
  unfold Rd.wait
  split
  · split
    · exact hI.take (hI.fail h (by decide))
    · exact hI.take h
  · exact h
theorem Stable.set_ {I : Rd → Prop} (hI : Stable I) {r : Rd} (h : I r) : I r.set_.2 := hI.must (hI.expr (hI.must (hI.pair h)))
theorem Stable.simple {I : Rd → Prop} (hI : Stable I) {r : Rd} (h : I r) (k pl : Int) : I (r.simple k pl).2 := by
  unfold Rd.simple
  split
  · exact hI.must (hI.pair h)
  split
  · exact hI.must (hI.wait (hI.name h))
  split
  · exact hI.must (hI.name h)
  · exact hI.must h
theorem Stable.head {I : Rd → Prop} (hI : Stable I) {r : Rd} (h : I r) (k : Int) : I (r.head k).2 := by
  unfold Rd.head
  split
  · exact hI.expr h
  split
  · exact hI.name h
  · exact h
theorem Stable.stmtF {I : Rd → Prop} (hI : Stable I) (f : Nat) : (∀ r : Rd, I r → I (stmtF f r).2) ∧ (∀ (k pl : Int) (r : Rd), I r → I (compF f k pl r).2) ∧ (∀ (l : List (List St)) (r : Rd), I r → I (orF f l r).2) ∧ (∀ r : Rd, I r → I (blockF f r).2) ∧ (∀ (l : List St) (r : Rd), I r → I (stmtsF f l r).2) := by
  induction f with
  | zero => exact ⟨fun r h => by rw [Q.stmtF]; exact h, fun k pl r h => by rw [compF]; exact h, fun l r h => by rw [orF]; exact h, fun r h => by rw [blockF]; exact h, fun l r h => by rw [stmtsF]; exact h⟩
  | succ f ih =>
    obtain ⟨i1, i2, i3, i4, i5⟩ := ih
    refine ⟨fun r h => ?_, fun k pl r h => ?_, fun l r h => ?_, fun r h => ?_, fun l r h => ?_⟩
    · rw [Q.stmtF]
      split
      · exact hI.set_ h
      split
      · exact hI.fail h (by decide)
      split
      · exact i2 _ _ _ (hI.take h)
      · exact hI.simple (hI.take h) _ _
    · have hb := i4 _ (hI.head h k)
      rw [compF]
      split
      · split
        · exact i4 _ (hI.take hb)
        · exact hb
      split
      · exact i3 _ _ hb
      · exact hb
    · rw [orF]
      split
      · exact i3 _ _ (i4 _ (hI.take (hI.room h)))
      · exact h
    · rw [blockF]
      split
      · exact hI.leave (hI.must (i5 [] _ (hI.enter h)))
      · exact hI.fail h (by decide)
    · rw [stmtsF]
      split
      · exact i5 _ _ (i1 r h)
      · exact h
theorem Stable.block {I : Rd → Prop} (hI : Stable I) {r : Rd} (h : I r) : I r.block.2 := (hI.stmtF _).2.2.2.1 r h
theorem Stable.whole {I : Rd → Prop} (hI : Stable I) {r : Rd} (h : I r) : I r.whole.2 := by
  have := hI.of (hI.may h (s := [45])) (k := 2)
  unfold Rd.whole
  exact this
theorem Stable.rng {I : Rd → Prop} (hI : Stable I) {r : Rd} (h : I r) : I r.rng.2 := by
  have h1 := hI.must (hI.whole h) (s := [46, 46])
  have h2 := hI.whole h1
  unfold Rd.rng
  dsimp only
  split
  · rename_i hc
    have hc1 : (r.whole.2.must [46, 46]).code = 0 := Classical.byContradiction fun e => by
      have := hc.2
      rw [bad_whole e] at this
      exact e this
    have e : (r.whole.2.must [46, 46]).next = (r.whole.2.must [46, 46]).hd := by unfold Rd.next; rw [if_pos hc1]
    rw [e]
    exact hI.set h1 h2 hc1 hc.2
  · exact h2
theorem Stable.fin {I : Rd → Prop} (hI : Stable I) {r : Rd} (h : I r) : I r.fin.2 := hI.must (hI.whole (hI.must h))
theorem Stable.bol {I : Rd → Prop} (hI : Stable I) {r : Rd} (h : I r) : I r.bol.2 := by
  unfold Rd.bol
  split
  · exact hI.must (hI.take (hI.must h))
  · exact hI.must (hI.must (hI.must h))
theorem Stable.var {I : Rd → Prop} (hI : Stable I) {r : Rd} (h : I r) : I r.var.2 := by
  have h1 := hI.must (hI.name h) (s := [58])
  unfold Rd.var
  split
  · exact hI.bol (hI.take h1)
  split
  · exact hI.fin (hI.take h1)
  · exact hI.fin (hI.rng h1)
theorem Stable.meth {I : Rd → Prop} (hI : Stable I) {r : Rd} (h : I r) : I r.meth.2 := hI.block (hI.name h)
theorem Stable.cnt {I : Rd → Prop} (hI : Stable I) {r : Rd} (h : I r) : I r.cnt.2 := by unfold Rd.cnt; split; (exact hI.take h); (exact hI.must h)
theorem Stable.role {I : Rd → Prop} (hI : Stable I) {r : Rd} (h : I r) : I r.role.2 := hI.block (hI.cnt (hI.name h))
theorem Stable.varsF {I : Rd → Prop} (hI : Stable I) (f : Nat) : ∀ (l : List Vr) (r : Rd), I r → I (varsF f l r).2 := by
  induction f with
  | zero => exact fun l r h => h
  | succ f ih =>
    intro l r h
    rw [Q.varsF]
    split
    · exact ih _ _ (hI.var (hI.take (hI.room h)))
    · exact h
theorem Stable.methsF {I : Rd → Prop} (hI : Stable I) (f : Nat) : ∀ (l : List Mt) (r : Rd), I r → I (methsF f l r).2 := by
  induction f with
  | zero => exact fun l r h => h
  | succ f ih =>
    intro l r h
    rw [Q.methsF]
    split
    · exact ih _ _ (hI.meth (hI.take (hI.room h)))
    · exact h
theorem Stable.mon {I : Rd → Prop} (hI : Stable I) {r : Rd} (h : I r) : I r.mon.2 := by
  unfold Rd.mon
  split
  · exact hI.leave (hI.must (hI.methsF _ _ _ (hI.varsF _ _ _ (hI.enter (hI.name h)))))
  · exact hI.fail (hI.name h) (by decide)
theorem Stable.prog {I : Rd → Prop} (hI : Stable I) {r : Rd} (h : I r) : I r.prog.2 := by
  have go : ∀ (f : Nat) (l : List Mo) (k : List Ro) (r : Rd), I r → I (progF f l k r).2 := by
    intro f
    induction f with
    | zero => exact fun l k r h => h
    | succ f ih =>
      intro l k r h
      rw [progF]
      split
      · split
        · exact ih _ _ _ (hI.mon (hI.take (hI.room h)))
        split
        · exact ih _ _ _ (hI.role (hI.take (hI.room h)))
        · exact ih _ _ _ (hI.fail h (by decide))
      · exact h
  exact go _ _ _ _ h
/-- What is left is of the tokens; an error is at one of them. -/
def Within (L : List Tk) (r : Rd) : Prop := r.toks ≠ [] ∧ (∀ t ∈ r.toks, t ∈ L) ∧ (r.code ≠ 0 → ∃ t ∈ L, r.at_ = t.pl)
theorem hd_mem {r : Rd} (h : r.toks ≠ []) : r.hd ∈ r.toks := by
  unfold Rd.hd
  cases hr : r.toks with
  | nil => exact absurd hr h
  | cons t l => simp
theorem within_stable (L : List Tk) : Stable (Within L) where
  take := fun {r} h => by
    unfold Rd.take
    split
    · rename_i hc
      refine ⟨?_, fun t ht => h.2.1 t (List.mem_of_mem_tail ht), h.2.2⟩
      intro e
      have := congrArg List.length e
      simp at this; omega
    · exact h
  fail := fun {r e} h he => by
    unfold Rd.fail
    split
    · exact ⟨h.1, h.2.1, fun _ => ⟨_, h.2.1 _ (hd_mem h.1), rfl⟩⟩
    · exact h
  more := fun {r n} h => h
  set := fun {r r'} h h' _ _ => ⟨h'.1, h'.2.1, fun _ => ⟨_, h.2.1 _ (hd_mem h.1), rfl⟩⟩
end Go.Proofs.YtmflfcbebeikcaaGreatDoor.Q

namespace Go.Proofs.YtmflfcbebeikcaaGreatDoor.Q
open Go.RowKit
variable [Amb]

def Tk.ren (σ : Int → Int) (t : Tk) : Tk := ⟨t.kind, t.text, t.n, σ t.pl⟩
def Rd.ren (σ : Int → Int) (r : Rd) : Rd := ⟨r.code, σ r.at_, r.toks.map (Tk.ren σ), r.opn⟩
mutual
def Ex.ren (σ : Int → Int) : Ex → Ex
  | ⟨op, mon, name, n, kids, pl⟩ => ⟨op, mon, name, n, Ex.rens σ kids, σ pl⟩
def Ex.rens (σ : Int → Int) : List Ex → List Ex
  | [] => []
  | x :: l => x.ren σ :: Ex.rens σ l
end
theorem Ex.rens_map (σ : Int → Int) : ∀ l : List Ex, Ex.rens σ l = l.map (Ex.ren σ)
  | [] => by simp [Ex.rens]
  | x :: l => by rw [Ex.rens, Ex.rens_map σ l]; rfl
theorem Ex.ren_mk (σ : Int → Int) (op : Int) (mon name : Str) (n : Int) (kids : List Ex) (pl : Int) : (Ex.mk op mon name n kids pl).ren σ = ⟨op, mon, name, n, kids.map (Ex.ren σ), σ pl⟩ := by rw [Ex.ren, Ex.rens_map]
mutual
def St.ren (σ : Int → Int) : St → St
  | ⟨kind, mon, name, n, e, blocks, pl⟩ => ⟨kind, mon, name, n, e.ren σ, St.renB σ blocks, σ pl⟩
def St.renL (σ : Int → Int) : List St → List St
  | [] => []
  | x :: l => x.ren σ :: St.renL σ l
def St.renB (σ : Int → Int) : List (List St) → List (List St)
  | [] => []
  | x :: l => St.renL σ x :: St.renB σ l
end
theorem St.renL_map (σ : Int → Int) : ∀ l : List St, St.renL σ l = l.map (St.ren σ)
  | [] => by simp [St.renL]
  | x :: l => by rw [St.renL, St.renL_map σ l]; rfl
theorem St.renB_map (σ : Int → Int) : ∀ l : List (List St), St.renB σ l = l.map (List.map (St.ren σ))
  | [] => by simp [St.renB]
  | x :: l => by rw [St.renB, St.renB_map σ l, St.renL_map]; rfl
theorem St.ren_mk (σ : Int → Int) (kind : Int) (mon name : Str) (n : Int) (e : Ex) (blocks : List (List St)) (pl : Int) : (St.mk kind mon name n e blocks pl).ren σ = ⟨kind, mon, name, n, e.ren σ, blocks.map (List.map (St.ren σ)), σ pl⟩ := by rw [St.ren, St.renB_map]
def Vr.ren (σ : Int → Int) (x : Vr) : Vr := ⟨x.name, x.type, x.lo, x.hi, x.init, σ x.pl⟩
def Mt.ren (σ : Int → Int) (x : Mt) : Mt := ⟨x.name, x.body.map (St.ren σ), σ x.pl⟩
def Mo.ren (σ : Int → Int) (x : Mo) : Mo := ⟨x.name, x.vars.map (Vr.ren σ), x.methods.map (Mt.ren σ), σ x.pl⟩
def Ro.ren (σ : Int → Int) (x : Ro) : Ro := ⟨x.name, x.star, x.count, x.body.map (St.ren σ), σ x.pl⟩
section
variable {σ : Int → Int} 
theorem Rd.ren_code (r : Rd) : (r.ren σ).code = r.code := rfl
theorem ren_next (h0 : σ 0 = 0) (r : Rd) : (r.ren σ).next = r.next.ren σ := by
  unfold Rd.next Rd.ren Rd.hd
  dsimp only
  have e : tk0.ren σ = tk0 := by unfold Tk.ren tk0; rw [h0]
  split
  · cases r.toks with
    | nil => exact e.symm
    | cons t l => rfl
  · exact e.symm
theorem ren_is (h0 : σ 0 = 0) (r : Rd) (s : Str) : (r.ren σ).is s = r.is s := by unfold Rd.is; rw [ren_next h0]; rfl
theorem ren_take (r : Rd) : (r.ren σ).take = r.take.ren σ := by
  unfold Rd.take
  by_cases h : r.code = 0 ∧ 1 < r.toks.length
  · rw [if_pos h, if_pos (by unfold Rd.ren; simpa using h)]
    unfold Rd.ren
    simp [List.map_tail]
  · rw [if_neg h, if_neg (by unfold Rd.ren; simpa using h)]
theorem ren_hd (h0 : σ 0 = 0) (r : Rd) : (r.ren σ).hd = r.hd.ren σ := by
  unfold Rd.ren Rd.hd
  have e : tk0.ren σ = tk0 := by unfold Tk.ren tk0; rw [h0]
  cases r.toks with
  | nil => exact e.symm
  | cons t l => rfl
theorem ren_fail (h0 : σ 0 = 0) (r : Rd) (e : Int) : (r.ren σ).fail e = (r.fail e).ren σ := by
  unfold Rd.fail
  rw [Rd.ren_code]
  by_cases h : r.code = 0
  · rw [if_pos h, if_pos h, ren_hd h0]; rfl
  · rw [if_neg h, if_neg h]
theorem ren_may (h0 : σ 0 = 0) (r : Rd) (s : Str) : (r.ren σ).may s = ((r.may s).1, (r.may s).2.ren σ) := by
  unfold Rd.may
  rw [ren_is h0]
  split
  · rw [ren_take]
  · rfl
theorem ren_must (h0 : σ 0 = 0) (r : Rd) (s : Str) : (r.ren σ).must s = (r.must s).ren σ := by
  unfold Rd.must
  rw [ren_is h0]
  split
  · rw [ren_take]
  · rw [ren_fail h0]
theorem ren_want (h0 : σ 0 = 0) (r : Rd) (k : Int) : (r.ren σ).want k = (r.want k).ren σ := by
  unfold Rd.want
  rw [ren_next h0]
  show (if r.next.kind = k then _ else _) = _
  split
  · rfl
  · rw [ren_fail h0]
theorem ren_of (h0 : σ 0 = 0) (r : Rd) (k : Int) : (r.ren σ).of k = ((r.of k).1.ren σ, (r.of k).2.ren σ) := by
  unfold Rd.of
  rw [ren_want h0, ren_next h0, ren_take]
theorem ren_name (h0 : σ 0 = 0) (r : Rd) : (r.ren σ).name = ((r.name.1.1, σ r.name.1.2), r.name.2.ren σ) := by
  unfold Rd.name
  rw [ren_of h0]; rfl
theorem ren_pair (h0 : σ 0 = 0) (r : Rd) : (r.ren σ).pair = (r.pair.1, r.pair.2.ren σ) := by
  unfold Rd.pair
  rw [ren_name h0]
  dsimp only
  rw [ren_must h0, ren_name h0]
theorem ren_room (h0 : σ 0 = 0) (r : Rd) (n most : Int) : (r.ren σ).room n most = (r.room n most).ren σ := by
  unfold Rd.room
  split
  · rw [ren_fail h0]
  · rfl
theorem ren_enter (h0 : σ 0 = 0) (r : Rd) : (r.ren σ).enter = r.enter.ren σ := by
  unfold Rd.enter Rd.deep
  show (Rd.more (if 64 ≤ r.opn then _ else _) 1).take = _
  split
  · rw [ren_fail h0]
    exact ren_take (σ := σ) ((r.fail 41).more 1)
  · exact ren_take (σ := σ) (r.more 1)
theorem ren_leave (r : Rd) : (r.ren σ).leave = r.leave.ren σ := rfl
theorem ren_oper (h0 : σ 0 = 0) (r : Rd) : ∀ l : List (Str × Int), (r.ren σ).oper l = ((r.oper l).1, (r.oper l).2.ren σ)
  | [] => rfl
  | p :: l => by
    rw [Rd.oper, Rd.oper, ren_is h0]
    split
    · rw [ren_take]
    · exact ren_oper h0 r l
theorem ex0_ren (h0 : σ 0 = 0) : ex0.ren σ = ex0 := by unfold ex0; rw [Ex.ren_mk, h0]; rfl
theorem Tk.ren_kind (t : Tk) : (t.ren σ).kind = t.kind := rfl
theorem Tk.ren_n (t : Tk) : (t.ren σ).n = t.n := rfl
theorem Tk.ren_pl (t : Tk) : (t.ren σ).pl = σ t.pl := rfl
theorem Tk.ren_text (t : Tk) : (t.ren σ).text = t.text := rfl
theorem Ex.ren_pl (x : Ex) : (x.ren σ).pl = σ x.pl := by cases x; rw [Ex.ren_mk]
theorem ren_exprF (h0 : σ 0 = 0) (f : Nat) : (∀ lv r, binF f lv (Rd.ren σ r) = ((binF f lv r).1.ren σ, (binF f lv r).2.ren σ)) ∧ (∀ lv e r, loopF f lv (Ex.ren σ e) (Rd.ren σ r) = ((loopF f lv e r).1.ren σ, (loopF f lv e r).2.ren σ)) ∧ (∀ r, termF f (Rd.ren σ r) = ((termF f r).1.ren σ, (termF f r).2.ren σ)) := by
  induction f with
  | zero => exact ⟨fun lv r => by rw [binF, binF, ex0_ren h0], fun lv e r => by rw [loopF, loopF], fun r => by rw [termF, termF, ex0_ren h0]⟩
  | succ f ih =>
    obtain ⟨i1, i2, i3⟩ := ih
    refine ⟨fun lv r => ?_, fun lv e r => ?_, fun r => ?_⟩
    · rw [binF, binF, ren_is h0]
      split
      · exact i3 r
      split
      · rw [ren_enter h0, i1]
        dsimp only
        rw [Ex.ren_mk, ren_next h0]; rfl
      · rw [i1]
        exact i2 _ _ _
    · rw [loopF, loopF, ren_oper h0]
      dsimp only
      split
      · rw [i1]
        dsimp only
        split
        · rw [Ex.ren_mk, Ex.ren_pl]; rfl
        · rw [← i2, Ex.ren_mk, Ex.ren_pl]; rfl
      · rfl
    · rw [termF, termF, ren_next h0, ren_take]
      rw [Tk.ren_kind, Tk.ren_n, Tk.ren_pl, ren_is h0, ren_is h0, ren_is h0, ren_is h0, ren_is h0]
      split
      · split
        · rw [ren_enter h0, i3]
          dsimp only
          rw [Ex.ren_mk]; rfl
        · dsimp only
          rw [Ex.ren_mk]; rfl
      split
      · rw [ren_pair h0]
        dsimp only
        rw [Ex.ren_mk]; rfl
      split
      · rw [ren_enter h0, i3]
        dsimp only
        rw [Ex.ren_mk]; rfl
      split
      · rw [ren_enter h0, i1]
        dsimp only
        rw [ren_must h0]; rfl
      split
      · dsimp only
        rw [Ex.ren_mk]; rfl
      split
      · dsimp only
        rw [Ex.ren_mk]; rfl
      · rw [ex0_ren h0, ren_fail h0]
theorem ren_m (r : Rd) : (r.ren σ).m = r.m := by unfold Rd.m Rd.ren; simp
theorem ren_expr (h0 : σ 0 = 0) (r : Rd) : (r.ren σ).expr = (r.expr.1.ren σ, r.expr.2.ren σ) := by
  unfold Rd.expr
  rw [ren_m]
  exact (ren_exprF h0 _).1 0 r
theorem ren_wait (h0 : σ 0 = 0) (r : Rd) : (r.ren σ).wait = (r.wait.1, r.wait.2.ren σ) := by
  unfold Rd.wait
  rw [ren_next h0, ren_fail h0, ren_take, ren_take, ren_next h0]
  rw [Tk.ren_kind, Tk.ren_n, Tk.ren_n]
  split
  · split <;> rfl
  · rfl
theorem ren_set (h0 : σ 0 = 0) (r : Rd) : (r.ren σ).set_ = (r.set_.1.ren σ, r.set_.2.ren σ) := by
  unfold Rd.set_
  rw [ren_pair h0, ren_next h0]
  dsimp only
  rw [ren_must h0, ren_expr h0]
  dsimp only
  rw [ren_must h0, St.ren_mk]; rfl
theorem ren_simple (h0 : σ 0 = 0) (r : Rd) (k pl : Int) : (r.ren σ).simple k (σ pl) = ((r.simple k pl).1.ren σ, (r.simple k pl).2.ren σ) := by
  unfold Rd.simple
  rw [ren_pair h0, ren_name h0]
  dsimp only
  rw [ren_wait h0]
  simp only [ren_must h0]
  split
  · dsimp only; rw [St.ren_mk, ex0_ren h0]; rfl
  split
  · dsimp only; rw [St.ren_mk, ex0_ren h0]; rfl
  split
  · dsimp only; rw [St.ren_mk, ex0_ren h0]; rfl
  · dsimp only; rw [St.ren_mk, ex0_ren h0]; rfl
theorem ren_head (h0 : σ 0 = 0) (r : Rd) (k : Int) : (r.ren σ).head k = (((r.head k).1.1, (r.head k).1.2.ren σ), (r.head k).2.ren σ) := by
  unfold Rd.head
  rw [ren_expr h0, ren_name h0]
  split
  · rfl
  split
  · dsimp only; rw [ex0_ren h0]
  · dsimp only; rw [ex0_ren h0]
theorem ren_stmtF (h0 : σ 0 = 0) (f : Nat) : (∀ r : Rd, stmtF f (r.ren σ) = ((stmtF f r).1.ren σ, (stmtF f r).2.ren σ)) ∧ (∀ (k pl : Int) (r : Rd), compF f k (σ pl) (r.ren σ) = ((compF f k pl r).1.ren σ, (compF f k pl r).2.ren σ)) ∧
    (∀ (l : List (List St)) (r : Rd), orF f (l.map (List.map (St.ren σ))) (r.ren σ) = ((orF f l r).1.map (List.map (St.ren σ)), (orF f l r).2.ren σ)) ∧ (∀ r : Rd, blockF f (r.ren σ) = ((blockF f r).1.map (St.ren σ), (blockF f r).2.ren σ)) ∧
    (∀ (l : List St) (r : Rd), stmtsF f (l.map (St.ren σ)) (r.ren σ) = ((stmtsF f l r).1.map (St.ren σ), (stmtsF f l r).2.ren σ)) := by
  have s0 : st0.ren σ = st0 := by unfold st0; rw [St.ren_mk, ex0_ren h0, h0]; rfl
  induction f with
  | zero => exact ⟨fun r => by rw [stmtF, stmtF, s0], fun k pl r => by rw [compF, compF, s0], fun l r => by rw [orF, orF], fun r => by rw [blockF, blockF]; rfl, fun l r => by rw [stmtsF, stmtsF]⟩
  | succ f ih =>
    obtain ⟨i1, i2, i3, i4, i5⟩ := ih
    refine ⟨fun r => ?_, fun k pl r => ?_, fun l r => ?_, fun r => ?_, fun l r => ?_⟩
    · rw [stmtF, stmtF, ren_next h0]
      rw [Tk.ren_kind, Tk.ren_text, Tk.ren_pl]
      split
      · exact ren_set h0 r
      split
      · rw [ren_fail h0]
        dsimp only
        rw [St.ren_mk, ex0_ren h0]; rfl
      split
      · rw [ren_take]; exact i2 _ _ _
      · rw [ren_take]; exact ren_simple h0 _ _ _
    · rw [compF, compF, ren_head h0]
      dsimp only
      rw [i4]
      dsimp only
      rw [ren_is h0, ren_take, i4]
      dsimp only
      split
      · split
        · dsimp only; rw [St.ren_mk]; rfl
        · dsimp only; rw [St.ren_mk]; rfl
      split
      · have := i3 [(blockF f (r.head k).2).1] (blockF f (r.head k).2).2
        rw [List.map_cons, List.map_nil] at this
        rw [this]
        dsimp only; rw [St.ren_mk]
      · dsimp only; rw [St.ren_mk]; rfl
    · rw [orF, orF, ren_is h0, List.length_map]
      split
      · rw [ren_room h0, ren_take, i4]
        dsimp only
        rw [← i3, List.map_append]; rfl
      · rfl
    · rw [blockF, blockF, ren_is h0]
      split
      · have := i5 [] r.enter
        rw [List.map_nil] at this
        rw [ren_enter h0, this]
        dsimp only
        rw [ren_must h0]; rfl
      · rw [ren_fail h0]; rfl
    · rw [stmtsF, stmtsF, ren_is h0]
      rw [Rd.ren_code]
      by_cases hc : r.code = 0 ∧ ¬ r.is [125] = true
      · rw [if_pos hc, if_pos hc, i1]
        dsimp only
        rw [← i5, List.map_append]; rfl
      · rw [if_neg hc, if_neg hc]
theorem ren_block (h0 : σ 0 = 0) (r : Rd) : (r.ren σ).block = (r.block.1.map (St.ren σ), r.block.2.ren σ) := by
  unfold Rd.block
  rw [ren_m]
  exact (ren_stmtF h0 _).2.2.2.1 r
theorem ren_whole (h0 : σ 0 = 0) (r : Rd) : (r.ren σ).whole = (r.whole.1, r.whole.2.ren σ) := by
  unfold Rd.whole
  rw [ren_may h0]
  dsimp only
  rw [ren_of h0]; rfl
theorem ren_rng (h0 : σ 0 = 0) (r : Rd) : (r.ren σ).rng = (r.rng.1, r.rng.2.ren σ) := by
  unfold Rd.rng
  rw [ren_whole h0]
  dsimp only
  rw [ren_must h0, ren_whole h0, ren_next h0]
  dsimp only
  rw [Rd.ren_code]
  split <;> rfl
theorem ren_fin (h0 : σ 0 = 0) (r : Rd) : (r.ren σ).fin = (r.fin.1, r.fin.2.ren σ) := by
  unfold Rd.fin
  rw [ren_must h0, ren_whole h0]
  dsimp only
  rw [ren_must h0]
theorem ren_bol (h0 : σ 0 = 0) (r : Rd) : (r.ren σ).bol = (r.bol.1, r.bol.2.ren σ) := by
  unfold Rd.bol
  rw [ren_must h0, ren_is h0, ren_take, ren_must h0, ren_must h0, ren_must h0]
  split <;> rfl
theorem ren_var (h0 : σ 0 = 0) (r : Rd) : (r.ren σ).var = (r.var.1.ren σ, r.var.2.ren σ) := by
  unfold Rd.var
  rw [ren_name h0]
  dsimp only
  rw [ren_must h0, ren_is h0, ren_is h0, ren_take, ren_bol h0, ren_fin h0, ren_rng h0]
  dsimp only
  rw [ren_fin h0]
  split
  · rfl
  split
  · rfl
  · rfl
theorem ren_meth (h0 : σ 0 = 0) (r : Rd) : (r.ren σ).meth = (r.meth.1.ren σ, r.meth.2.ren σ) := by
  unfold Rd.meth
  rw [ren_name h0]
  dsimp only
  rw [ren_block h0]; rfl
theorem ren_cnt (h0 : σ 0 = 0) (r : Rd) : (r.ren σ).cnt = (r.cnt.1, r.cnt.2.ren σ) := by
  unfold Rd.cnt
  rw [ren_next h0, ren_take, ren_must h0]
  rw [Tk.ren_kind, Tk.ren_n]
  split <;> rfl
theorem ren_role (h0 : σ 0 = 0) (r : Rd) : (r.ren σ).role = (r.role.1.ren σ, r.role.2.ren σ) := by
  unfold Rd.role
  rw [ren_name h0]
  dsimp only
  rw [ren_cnt h0]
  dsimp only
  rw [ren_block h0]; rfl
theorem ren_varsF (h0 : σ 0 = 0) (f : Nat) : ∀ (l : List Vr) (r : Rd), varsF f (l.map (Vr.ren σ)) (r.ren σ) = ((varsF f l r).1.map (Vr.ren σ), (varsF f l r).2.ren σ) := by
  induction f with
  | zero => exact fun l r => rfl
  | succ f ih =>
    intro l r
    rw [varsF, varsF, ren_is h0, List.length_map]
    split
    · rw [ren_room h0, ren_take, ren_var h0]
      dsimp only
      rw [← ih, List.map_append]; rfl
    · rfl
theorem ren_methsF (h0 : σ 0 = 0) (f : Nat) : ∀ (l : List Mt) (r : Rd), methsF f (l.map (Mt.ren σ)) (r.ren σ) = ((methsF f l r).1.map (Mt.ren σ), (methsF f l r).2.ren σ) := by
  induction f with
  | zero => exact fun l r => rfl
  | succ f ih =>
    intro l r
    rw [methsF, methsF, ren_is h0, List.length_map]
    split
    · rw [ren_room h0, ren_take, ren_meth h0]
      dsimp only
      rw [← ih, List.map_append]; rfl
    · rfl
theorem ren_vars (h0 : σ 0 = 0) (r : Rd) : (r.ren σ).vars = (r.vars.1.map (Vr.ren σ), r.vars.2.ren σ) := by
  unfold Rd.vars; rw [ren_m]; exact ren_varsF h0 _ [] r
theorem ren_meths (h0 : σ 0 = 0) (r : Rd) : (r.ren σ).meths = (r.meths.1.map (Mt.ren σ), r.meths.2.ren σ) := by
  unfold Rd.meths; rw [ren_m]; exact ren_methsF h0 _ [] r
theorem ren_monB (h0 : σ 0 = 0) (r : Rd) : (r.ren σ).monB = ((r.monB.1.1.map (Vr.ren σ), r.monB.1.2.map (Mt.ren σ)), r.monB.2.ren σ) := by
  unfold Rd.monB
  rw [ren_vars h0]
  dsimp only
  rw [ren_meths h0]
  dsimp only
  rw [ren_must h0]
theorem ren_mon (h0 : σ 0 = 0) (r : Rd) : (r.ren σ).mon = (r.mon.1.ren σ, r.mon.2.ren σ) := by
  unfold Rd.mon
  rw [ren_name h0]
  dsimp only
  rw [ren_is h0, ren_enter h0, ren_monB h0, ren_fail h0]
  split <;> rfl
theorem ren_progF (h0 : σ 0 = 0) (f : Nat) : ∀ (l : List Mo) (k : List Ro) (r : Rd), progF f (l.map (Mo.ren σ)) (k.map (Ro.ren σ)) (r.ren σ) = (((progF f l k r).1.1.map (Mo.ren σ), (progF f l k r).1.2.map (Ro.ren σ)), (progF f l k r).2.ren σ) := by
  induction f with
  | zero => exact fun l k r => rfl
  | succ f ih =>
    intro l k r
    rw [progF, progF, ren_is h0, ren_is h0, List.length_map, List.length_map, ren_next h0]
    rw [Tk.ren_kind]
    rw [Rd.ren_code]
    by_cases hc : r.code = 0 ∧ ¬ r.next.kind = 5
    · rw [if_pos hc, if_pos hc]
      split
      · rw [ren_room h0, ren_take, ren_mon h0]
        dsimp only
        rw [← ih, List.map_append]; rfl
      split
      · rw [ren_room h0, ren_take, ren_role h0]
        dsimp only
        rw [← ih, List.map_append]; rfl
      · rw [ren_fail h0, ← ih]
    · rw [if_neg hc, if_neg hc]
theorem ren_prog (h0 : σ 0 = 0) (r : Rd) : (r.ren σ).prog = ((r.prog.1.1.map (Mo.ren σ), r.prog.1.2.map (Ro.ren σ)), r.prog.2.ren σ) := by
  unfold Rd.prog; rw [ren_m]; exact ren_progF h0 _ [] [] r
end
end Go.Proofs.YtmflfcbebeikcaaGreatDoor.Q
