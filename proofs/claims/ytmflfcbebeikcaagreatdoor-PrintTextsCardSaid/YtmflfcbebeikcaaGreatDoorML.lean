/- What the parser's statements, monitors and programs compute. No condition. -/
import Derived.Test.YtmflfcbebeikcaaGreatDoorMK
set_option linter.unusedVariables false
set_option linter.unusedSectionVars false
set_option linter.unnecessarySimpa false
set_option linter.unusedSimpArgs false
set_option maxRecDepth 100000
set_option maxHeartbeats 4000000
namespace Go.Proofs.YtmflfcbebeikcaaGreatDoor.Q
open Go.RowKit
variable [Amb]
def kindT : List Str := [[115, 107, 105, 112], [105, 102], [119, 104, 105, 108, 101], [108, 111, 111, 112], [99, 104, 111, 111, 115, 101], [115, 121, 110, 99], [99, 97, 108, 108], [119, 97, 105, 116], [110, 111, 116, 105, 102, 121], [110, 111, 116, 105, 102, 121, 97, 108, 108]]
def kindN : List Int := [1, 3, 4, 5, 6, 7, 8, 9, 10, 11]
/-- The kind of statements that begin with a word. -/
def kindOf (s : Str) : Int := selI s kindT kindN 0
theorem kinds_c : PFun Tryz.prog 160 [] [] (.map 0) [.mp (kindT.map sv') (kindN.map iv)] := by
  refine fn_sem pok 3 0 Tryz.func160 (by kernel_rfl) rfl rfl rfl rfl ?_
  refine SWp.go pok (by kernel_rfl) ?_
  exact ⟨rfl, rfl⟩
theorem kindOf_in (s : Str) : kindOf s = 0 ∨ kindOf s = 1 ∨ kindOf s = 3 ∨ kindOf s = 4 ∨ kindOf s = 5 ∨ kindOf s = 6 ∨ kindOf s = 7 ∨ kindOf s = 8 ∨ kindOf s = 9 ∨ kindOf s = 10 ∨ kindOf s = 11 := by
  unfold kindOf kindT kindN
  simp only [selI]
  repeat' split
  all_goals simp
def st0 : St := ⟨0, [], [], 0, ex0, [], 0⟩
def Rd.wait (r : Rd) : Int × Rd := if r.next.kind = 2 then (if r.next.n = 0 then ((r.fail 40).next.n, (r.fail 40).take) else (r.next.n, r.take)) else (0, r)
def Rd.set_ (r : Rd) : St × Rd := (⟨2, r.pair.1.1, r.pair.1.2, 0, (r.pair.2.must [61]).expr.1, [], r.next.pl⟩, (r.pair.2.must [61]).expr.2.must [59])
def Rd.simple (r : Rd) (k pl : Int) : St × Rd :=
  if k = 8 then (⟨8, r.pair.1.1, r.pair.1.2, 0, ex0, [], pl⟩, r.pair.2.must [59]) else
  if k = 9 then (⟨9, r.name.1.1, [], r.name.2.wait.1, ex0, [], pl⟩, r.name.2.wait.2.must [59]) else
  if k = 10 ∨ k = 11 then (⟨k, r.name.1.1, [], 0, ex0, [], pl⟩, r.name.2.must [59]) else (⟨k, [], [], 0, ex0, [], pl⟩, r.must [59])
/-- What a statement with blocks has ahead of them. -/
def Rd.head (r : Rd) (k : Int) : (Str × Ex) × Rd := if k = 3 ∨ k = 4 then (([], r.expr.1), r.expr.2) else if k = 7 then ((r.name.1.1, ex0), r.name.2) else (([], ex0), r)
mutual
def stmtF : Nat → Rd → St × Rd
  | 0, r => (st0, r)
  | f + 1, r => if r.next.kind = 1 then r.set_ else if ¬ r.next.kind = 3 ∨ kindOf r.next.text = 0 then (⟨kindOf r.next.text, [], [], 0, ex0, [], r.next.pl⟩, r.fail 40) else
    if 3 ≤ kindOf r.next.text ∧ kindOf r.next.text ≤ 7 then compF f (kindOf r.next.text) r.next.pl r.take else r.take.simple (kindOf r.next.text) r.next.pl
def compF : Nat → Int → Int → Rd → St × Rd
  | 0, _, _, r => (st0, r)
  | f + 1, k, pl, r =>
    if k = 3 then (if (blockF f (r.head k).2).2.is [101, 108, 115, 101] = true then
        (⟨k, (r.head k).1.1, [], 0, (r.head k).1.2, [(blockF f (r.head k).2).1, (blockF f (blockF f (r.head k).2).2.take).1], pl⟩, (blockF f (blockF f (r.head k).2).2.take).2)
      else (⟨k, (r.head k).1.1, [], 0, (r.head k).1.2, [(blockF f (r.head k).2).1], pl⟩, (blockF f (r.head k).2).2))
    else if k = 6 then (⟨k, (r.head k).1.1, [], 0, (r.head k).1.2, (orF f [(blockF f (r.head k).2).1] (blockF f (r.head k).2).2).1, pl⟩, (orF f [(blockF f (r.head k).2).1] (blockF f (r.head k).2).2).2)
    else (⟨k, (r.head k).1.1, [], 0, (r.head k).1.2, [(blockF f (r.head k).2).1], pl⟩, (blockF f (r.head k).2).2)
def orF : Nat → List (List St) → Rd → List (List St) × Rd
  | 0, l, r => (l, r)
  | f + 1, l, r => if r.is [111, 114] = true then orF f (l ++ [(blockF f (r.room l.length 8).take).1]) (blockF f (r.room l.length 8).take).2 else (l, r)
def blockF : Nat → Rd → List St × Rd
  | 0, r => ([], r)
  | f + 1, r => if r.is [123] = true then ((stmtsF f [] r.enter).1, ((stmtsF f [] r.enter).2.must [125]).leave) else ([], r.fail 40)
def stmtsF : Nat → List St → Rd → List St × Rd
  | 0, l, r => (l, r)
  | f + 1, l, r => if r.code = 0 ∧ ¬ r.is [125] = true then stmtsF f (l ++ [(stmtF f r).1]) (stmtF f r).2 else (l, r)
end
theorem Rd.ok.wait {r : Rd} (h : r.ok) : r.to r.wait.2 := by
  unfold Rd.wait
  split
  · split
    · exact (h.fail (by decide)).trans (h.fail (by decide)).ok.take
    · exact h.take
  · exact h.to
theorem Rd.ok.set_ {r : Rd} (h : r.ok) : r.to r.set_.2 := by
  have h1 := h.pair
  have h2 := h1.trans h1.ok.must (c := r.pair.2.must [61])
  have h3 := h2.trans h2.ok.expr
  exact h3.trans h3.ok.must
theorem Rd.ok.simple {r : Rd} (h : r.ok) (k pl : Int) : r.to (r.simple k pl).2 := by
  unfold Rd.simple
  split
  · exact h.pair.trans h.pair.ok.must
  split
  · have := h.name.trans h.name.ok.wait
    exact this.trans this.ok.must
  split
  · exact h.name.trans h.name.ok.must
  · exact h.must
theorem Rd.ok.head {r : Rd} (h : r.ok) (k : Int) : r.to (r.head k).2 := by
  unfold Rd.head
  split
  · exact h.expr
  split
  · exact h.name
  · exact h.to
theorem ent {r : Rd} {s : Str} (h : r.ok) (hi : r.is s = true) : r.enter.ok ∧ ∀ r' : Rd, r.enter.to r' → r.to r'.leave ∧ r'.leave.m < r.m := by
  obtain ⟨c1, c2⟩ := Rd.is_not5 hi
  obtain ⟨g1, g2, g3⟩ := h.enter c1 c2
  exact ⟨g1, fun r' ht => ⟨h.leave c1 ht.ok (ht.opn.trans g3) (by have := ht.m; omega), by have := ht.m; show r'.m < r.m; omega⟩⟩
theorem stmt_to (f : Nat) : (∀ r : Rd, r.ok → r.to (stmtF f r).2) ∧ (∀ (k pl : Int) (r : Rd), r.ok → r.to (compF f k pl r).2) ∧ (∀ (l : List (List St)) (r : Rd), r.ok → r.to (orF f l r).2) ∧ (∀ r : Rd, r.ok → r.to (blockF f r).2) ∧ (∀ (l : List St) (r : Rd), r.ok → r.to (stmtsF f l r).2) := by
  induction f with
  | zero => exact ⟨fun r h => by rw [stmtF]; exact h.to, fun k pl r h => by rw [compF]; exact h.to, fun l r h => by rw [orF]; exact h.to, fun r h => by rw [blockF]; exact h.to, fun l r h => by rw [stmtsF]; exact h.to⟩
  | succ f ih =>
    obtain ⟨i1, i2, i3, i4, i5⟩ := ih
    refine ⟨fun r h => ?_, fun k pl r h => ?_, fun l r h => ?_, fun r h => ?_, fun l r h => ?_⟩
    · rw [stmtF]
      split
      · exact h.set_
      split
      · exact h.fail (by decide)
      split
      · exact h.take.trans (i2 _ _ _ h.take.ok)
      · exact h.take.trans (h.take.ok.simple _ _)
    · have hb := (h.head k).trans (i4 _ (h.head k).ok)
      rw [compF]
      split
      · split
        · have hc := hb.trans hb.ok.take
          exact hc.trans (i4 _ hc.ok)
        · exact hb
      split
      · exact hb.trans (i3 _ _ hb.ok)
      · exact hb
    · rw [orF]
      split
      · have h1 := h.room.trans h.room.ok.take (c := (r.room l.length 8).take)
        have h2 := h1.trans (i4 _ h1.ok)
        exact h2.trans (i3 _ _ h2.ok)
      · exact h.to
    · rw [blockF]
      split
      · rename_i hi
        obtain ⟨g1, g2⟩ := ent h hi
        have := i5 [] _ g1
        exact (g2 _ (this.trans this.ok.must)).1
      · exact h.fail (by decide)
    · rw [stmtsF]
      split
      · exact (i1 r h).trans (i5 _ _ (i1 r h).ok)
      · exact h.to
theorem Rd.fail_m {r : Rd} (hc : r.code = 0) (h : r.ok) {e : Int} (he : e ≠ 0) : (r.fail e).m < r.m := by
  have hpos : 0 < r.m := by unfold Rd.m; rw [if_pos hc]; exact h.ne
  have : (r.fail e).m = 0 := by
    unfold Rd.fail; rw [if_pos hc]
    unfold Rd.m; rw [if_neg he]
  omega
/-- A statement takes something, or fails. -/
theorem stmt_lt (f : Nat) (r : Rd) (h : r.ok) (hc : r.code = 0) : (stmtF (f + 1) r).2.m < r.m := by
  have hn : r.next = r.hd := by unfold Rd.next; rw [if_pos hc]
  rw [stmtF, hn]
  split
  · rename_i hk
    obtain ⟨t1, _⟩ := h.takes hc (by rw [hk]; decide)
    have e : r.name.2 = r.take := by
      unfold Rd.name Rd.of Rd.want
      rw [hn, if_pos hk]
    have h1 := h.name
    have hp : r.pair.2.m ≤ r.name.2.m := (h1.ok.must.trans h1.ok.must.ok.name).m
    have h2 := h.pair.ok.must (s := [61])
    have h3 := h2.trans h2.ok.expr
    have h4 := (h3.trans h3.ok.must (c := r.set_.2)).m
    rw [e] at hp
    omega
  split
  · exact Rd.fail_m hc h (by decide)
  · rename_i hk3
    have hk : r.hd.kind = 3 := Classical.byContradiction fun e => hk3 (.inl e)
    obtain ⟨t1, _⟩ := h.takes hc (by rw [hk]; decide)
    split
    · have := ((stmt_to f).2.1 (kindOf r.hd.text) r.hd.pl r.take h.take.ok).m
      omega
    · have := (h.take.ok.simple (kindOf r.hd.text) r.hd.pl).m
      omega
end Go.Proofs.YtmflfcbebeikcaaGreatDoor.Q

namespace Go.Proofs.YtmflfcbebeikcaaGreatDoor.Q
open Go.RowKit
variable [Amb]
def St.rw_ (x : St) : List D := [.int .i64 x.kind, .str x.mon, .str x.name, .int .i64 x.n, .int .i64 x.e.op, .str x.e.mon, .str x.e.name, .int .i64 x.e.n, .sl (x.e.kids.map Ex.e), .int .i64 x.e.pl, .sl (x.blocks.map blk), .int .i64 x.pl]
theorem St.c_rw (x : St) : x.c = x.rw_ := by rw [St.c_eq, Ex.e_row]; rfl
abbrev StmtC (f : Nat) : Prop := ∀ r : Rd, r.ok → 8 * r.m + 1 ≤ f → PFun Tryz.prog 142 [.ptr 0 0] [r.b] (stmtF f r).1.v [(stmtF f r).2.b]
abbrev BlockC (f : Nat) : Prop := ∀ r : Rd, r.ok → 8 * r.m + 3 ≤ f → PFun Tryz.prog 112 [.ptr 0 0] [r.b] (.d (.sl ((blockF f r).1.map St.c))) [(blockF f r).2.b]
theorem Rd.m_len (r : Rd) : r.m ≤ r.toks.length := by unfold Rd.m; split <;> omega
theorem RL_st (l : List St) : RL (l.map St.c) 12 := fun r hr => by
  obtain ⟨t, _, rfl⟩ := List.mem_map.1 hr
  rw [St.c_eq, Ex.e_row]; rfl
theorem block1_c (f : Nat) (ihS : ∀ g ≤ f, StmtC g) (r : Rd) (h : r.ok) (hf : 8 * r.m + 2 ≤ f + 1) :
    PFun Tryz.prog 141 [.ptr 0 0, .ptr 2 0] [.box [.ptr 1 0], r.b, .box [.fsl []]] (.tup [])
      [.box [.ptr 1 0], ((stmtsF (f + 1) [] r).2.must [125]).b, .box [.gsl ((stmtsF (f + 1) [] r).1.map St.c) 3], .tip 12 (stmtsF (f + 1) [] r).1.length] := by
  refine fn_sem pok 21 3 Tryz.func141 (by kernel_rfl) rfl rfl rfl rfl ?_
  refine SWp.go pok (by kernel_rfl) ?_
  refine SWp.tipBox 2 0 12 rfl rfl ?_
  refine SWp.loop (fun q : Nat × List St × List (List D) × Rd => q.1 ≤ f + 1 ∧ q.2.2.1 = q.2.1.map St.c ∧ q.2.2.2.ok ∧ 8 * q.2.2.2.m + 2 ≤ q.1 ∧ q.2.1.length + q.2.2.2.m ≤ r.m ∧ stmtsF q.1 q.2.1 q.2.2.2 = stmtsF (f + 1) [] r)
    (fun q => ([(0, .ptr 0 0), (1, .ptr 2 0)], [.box [.ptr 1 0], q.2.2.2.b, .box [.gsl q.2.2.1 3], .tip 12 q.2.1.length])) (fun q => q.2.2.2.m) (f + 1, [], [], r) ⟨Nat.le_refl _, rfl, h, hf, by dsimp only; simp, rfl⟩ (Le.same ⟨rfl, rfl, trivial⟩) (fun q hq => ?_)
  obtain ⟨f1, l, rows, r1⟩ := q
  obtain ⟨hle, hrw, hok, hfu, hln, he⟩ := hq
  dsimp only at hle hrw hok hfu hln he
  subst hrw
  have hml := r.m_len
  have hl0 := h.len
  cases f1 with
  | zero => omega
  | succ f' =>
    rw [stmtsF] at he
    refine SWp.go pok (by kernel_rfl) ?_
    by_cases hc : r1.code = 0 ∧ ¬ r1.is [125] = true
    · rw [if_pos hc] at he
      refine brP_true (by simpa using hc.1) ?_
      refine PFun.call (is_c r1 [125] hok) ?_
      refine brP_true (by simpa using hc.2) ?_
      have hpos : 0 < r1.m := by unfold Rd.m; rw [if_pos hc.1]; exact hok.ne
      cases f' with
      | zero => omega
      | succ f'' =>
        have hlt := stmt_lt f'' r1 hok hc.1
        have hto := (stmt_to (f'' + 1)).1 r1 hok
        refine ⟨_, _, ihS (f'' + 1) (by omega) r1 hok (by omega), ?_⟩
        generalize stmtF (f'' + 1) r1 = q at he hlt hto
        obtain ⟨x, r2⟩ := q
        dsimp only at he hlt hto
        refine ⟨⟨by simp, RL_st l, fun r hr => by simp at hr; subst hr; rfl, by simp; omega⟩, ?_⟩
        refine ⟨(f'' + 1, l ++ [x], (l ++ [x]).map St.c, r2), ⟨by omega, rfl, hto.ok, by dsimp only; omega, by dsimp only; rw [List.length_append, List.length_singleton]; omega, he⟩, hlt, .inr ⟨[0, 1, 2, 3], ⟨rfl, rfl⟩, ?_, rfl, rfl, trivial⟩⟩
        simp only [List.map_append, List.map_cons, List.map_nil, St.c_rw, List.length_append, List.length_map]
        rfl
    · rw [if_neg hc] at he
      rw [← he]
      by_cases hc0 : r1.code = 0
      · have h1 : r1.is [125] = true := Classical.byContradiction fun e => hc ⟨hc0, e⟩
        refine brP_true (by simpa using hc0) ?_
        refine PFun.call (is_c r1 [125] hok) ?_
        refine brP_false (by simpa using h1) ?_
        refine PFun.call (must_c r1 [125] hok) ?_
        exact ⟨rfl, rfl⟩
      · refine brP_false (by simpa using hc0) ?_
        refine PFun.call (must_c r1 [125] hok) ?_
        exact ⟨rfl, rfl⟩
theorem block_w (f : Nat) (ihS : ∀ g ≤ f, StmtC g) (r : Rd) (h : r.ok) (hf : 8 * r.m + 3 ≤ f + 2) :
    PFun Tryz.prog 112 [.ptr 0 0] [r.b] (.d (.sl ((blockF (f + 2) r).1.map St.c))) [(blockF (f + 2) r).2.b] := by
  rw [blockF]
  refine fn_sem pok 12 1 Tryz.func112 (by kernel_rfl) rfl rfl rfl rfl ?_
  refine SWp.go pok (by kernel_rfl) ?_
  refine PFun.call (is_c r [123] h) ?_
  by_cases hi : r.is [123] = true
  · obtain ⟨c1, c2⟩ := Rd.is_not5 hi
    obtain ⟨g1, g2, g3⟩ := h.enter c1 c2
    have ht := (stmt_to (f + 1)).2.2.2.2 [] r.enter g1
    have hm := ht.trans ht.ok.must (c := (stmtsF (f + 1) [] r.enter).2.must [125])
    rw [if_pos hi]
    refine brP_false (by rw [hi]; rfl) ?_
    refine PFun.call (withinBlock _ _ r ((stmtsF (f + 1) [] r.enter).2.must [125]) h c1 (hm.opn.trans g3) (block1_c f ihS r.enter g1 (by omega))) ?_
    exact ⟨rfl, rfl⟩
  · rw [if_neg hi]
    refine brP_true (by simpa using hi) ?_
    refine PFun.call (fail_c r 40 h) ?_
    exact ⟨rfl, rfl⟩
end Go.Proofs.YtmflfcbebeikcaaGreatDoor.Q

namespace Go.Proofs.YtmflfcbebeikcaaGreatDoor.Q
open Go.RowKit
variable [Amb]
/-- A statement that is being made. -/
abbrev sB (k : Int) (mon : Str) (e : Ex) (B : V) (pl : Int) : List V := [iv k, sv' mon, sv' [], iv 0, iv e.op, sv' e.mon, sv' e.name, iv e.n, .d (.sl (e.kids.map Ex.e)), iv e.pl, B, iv pl]
abbrev sN (k : Int) (mon : Str) (B : V) (pl : Int) : List V := [iv k, sv' mon, sv' [], iv 0, iv 0, sv' [], sv' [], iv 0, .fsl [], iv 0, B, iv pl]
theorem comp4_c (f : Nat) (ihB : BlockC f) (pl : Int) (r : Rd) (h : r.ok) (hf : 8 * r.m + 5 ≤ f + 1) :
    PFun Tryz.prog 161 [.ptr 0 0, .ptr 1 0] [r.b, .box (sN 4 [] (.fsl []) pl)] (.tup []) [(compF (f + 1) 4 pl r).2.b, .box (sB 4 [] r.expr.1 (.fsl [blk (blockF f r.expr.2).1]) pl)] := by
  have he := h.expr
  have hb := ihB r.expr.2 he.ok (by have := he.m; omega)
  rw [compF, if_neg (by decide), if_neg (by decide)]
  rw [show r.head 4 = (([], r.expr.1), r.expr.2) from rfl]
  refine fn_sem pok 81 2 Tryz.func161 (by kernel_rfl) rfl rfl rfl rfl ?_
  refine SWp.go pok (by kernel_rfl) ?_
  refine PFun.call (expr_c r h) ?_
  refine PFun.call hb ?_
  refine SWp.loop (fun _ : Unit => True) (fun _ => ([(0, .ptr 0 0), (1, .ptr 1 0)], [(blockF f r.expr.2).2.b, .box (sB 4 [] r.expr.1 (.fsl [blk (blockF f r.expr.2).1]) pl)])) (fun _ => 0) () trivial (Le.same ⟨rfl, rfl, trivial⟩) (fun _ _ => ?_)
  refine SWp.go pok (by kernel_rfl) ?_
  exact ⟨rfl, rfl⟩
theorem comp5_c (f : Nat) (ihB : BlockC f) (pl : Int) (r : Rd) (h : r.ok) (hf : 8 * r.m + 5 ≤ f + 1) :
    PFun Tryz.prog 161 [.ptr 0 0, .ptr 1 0] [r.b, .box (sN 5 [] (.fsl []) pl)] (.tup []) [(compF (f + 1) 5 pl r).2.b, .box (sN 5 [] (.fsl [blk (blockF f r).1]) pl)] := by
  have hb := ihB r h (by omega)
  rw [compF, if_neg (by decide), if_neg (by decide)]
  rw [show r.head 5 = (([], ex0), r) from rfl]
  refine fn_sem pok 81 2 Tryz.func161 (by kernel_rfl) rfl rfl rfl rfl ?_
  refine SWp.go pok (by kernel_rfl) ?_
  refine PFun.call hb ?_
  refine SWp.loop (fun _ : Unit => True) (fun _ => ([(0, .ptr 0 0), (1, .ptr 1 0)], [(blockF f r).2.b, .box (sN 5 [] (.fsl [blk (blockF f r).1]) pl)])) (fun _ => 0) () trivial (Le.same ⟨rfl, rfl, trivial⟩) (fun _ _ => ?_)
  refine SWp.go pok (by kernel_rfl) ?_
  exact ⟨rfl, rfl⟩
theorem comp7_c (f : Nat) (ihB : BlockC f) (pl : Int) (r : Rd) (h : r.ok) (hf : 8 * r.m + 5 ≤ f + 1) :
    PFun Tryz.prog 161 [.ptr 0 0, .ptr 1 0] [r.b, .box (sN 7 [] (.fsl []) pl)] (.tup []) [(compF (f + 1) 7 pl r).2.b, .box (sN 7 r.name.1.1 (.fsl [blk (blockF f r.name.2).1]) pl)] := by
  have he := h.name
  have hb := ihB r.name.2 he.ok (by have := he.m; omega)
  rw [compF, if_neg (by decide), if_neg (by decide)]
  rw [show r.head 7 = ((r.name.1.1, ex0), r.name.2) from rfl]
  refine fn_sem pok 81 2 Tryz.func161 (by kernel_rfl) rfl rfl rfl rfl ?_
  refine SWp.go pok (by kernel_rfl) ?_
  refine PFun.call (name_c r h) ?_
  refine PFun.call hb ?_
  refine SWp.loop (fun _ : Unit => True) (fun _ => ([(0, .ptr 0 0), (1, .ptr 1 0)], [(blockF f r.name.2).2.b, .box (sN 7 r.name.1.1 (.fsl [blk (blockF f r.name.2).1]) pl)])) (fun _ => 0) () trivial (Le.same ⟨rfl, rfl, trivial⟩) (fun _ _ => ?_)
  refine SWp.go pok (by kernel_rfl) ?_
  exact ⟨rfl, rfl⟩
theorem comp3_c (f : Nat) (ihB : BlockC f) (pl : Int) (r : Rd) (h : r.ok) (hf : 8 * r.m + 5 ≤ f + 1) :
    PCalls Tryz.prog 161 [.ptr 0 0, .ptr 1 0] [r.b, .box (sN 3 [] (.fsl []) pl)] (fun res h' => res = .tup [] ∧ ∃ B hs, h' = [(compF (f + 1) 3 pl r).2.b, .box (sB 3 [] r.expr.1 B pl)] ++ hs ∧
      ((B = .fsl ((compF (f + 1) 3 pl r).1.blocks.map blk) ∧ hs = []) ∨ (B = .gsl ((compF (f + 1) 3 pl r).1.blocks.map blk) 2 ∧ hs = [.tip 1 2]))) := by
  have he := h.expr
  have hb := ihB r.expr.2 he.ok (by have := he.m; omega)
  have hbt := (stmt_to f).2.2.2.1 r.expr.2 he.ok
  rw [compF, if_pos rfl]
  rw [show r.head 3 = (([], r.expr.1), r.expr.2) from rfl]
  dsimp only
  generalize blockF f r.expr.2 = q at hb hbt ⊢
  obtain ⟨b1, r1⟩ := q
  dsimp only at hb hbt ⊢
  refine fn_sem pok 81 2 Tryz.func161 (by kernel_rfl) rfl rfl rfl rfl ?_
  refine SWp.go pok (by kernel_rfl) ?_
  refine PFun.call (expr_c r h) ?_
  refine PFun.call hb ?_
  refine PFun.call (may_c r1 [101, 108, 115, 101] hbt.ok) ?_
  unfold Rd.may
  by_cases hi : r1.is [101, 108, 115, 101] = true
  · rw [if_pos hi, if_pos hi]
    have hk := hbt.ok.take
    have hb2 := ihB r1.take hk.ok (by have := hk.m; have := hbt.m; have := he.m; omega)
    generalize blockF f r1.take = q2 at hb2 ⊢
    obtain ⟨b2, r2⟩ := q2
    dsimp only at hb2 ⊢
    refine ⟨_, _, hb2, ?_⟩
    refine ⟨⟨fun r hr => by simp at hr; subst hr; rfl, fun r hr => by simp at hr; subst hr; rfl, by simp⟩, ?_⟩
    refine SWp.loop (fun _ : Unit => True) (fun _ => ([(0, .ptr 0 0), (1, .ptr 1 0)], [r2.b, .box (sB 3 [] r.expr.1 (.gsl [blk b1, blk b2] 2) pl), .tip 1 2])) (fun _ => 0) () trivial (Le.same ⟨rfl, rfl, trivial⟩) (fun _ _ => ?_)
    refine SWp.go pok (by kernel_rfl) ?_
    exact ⟨rfl, _, _, rfl, .inr ⟨rfl, rfl⟩⟩
  · rw [if_neg hi, if_neg hi]
    refine SWp.loop (fun _ : Unit => True) (fun _ => ([(0, .ptr 0 0), (1, .ptr 1 0)], [r1.b, .box (sB 3 [] r.expr.1 (.fsl [blk b1]) pl)])) (fun _ => 0) () trivial (Le.same ⟨rfl, rfl, trivial⟩) (fun _ _ => ?_)
    refine SWp.go pok (by kernel_rfl) ?_
    exact ⟨rfl, _, _, rfl, .inl ⟨rfl, rfl⟩⟩
theorem RL_blk (l : List (List St)) : RL (l.map blk) 1 := fun r hr => by obtain ⟨t, _, rfl⟩ := List.mem_map.1 hr; rfl
theorem comp6_c (f : Nat) (ihB : ∀ g ≤ f, BlockC g) (pl : Int) (r : Rd) (h : r.ok) (hf : 8 * r.m + 5 ≤ f + 1) :
    PFun Tryz.prog 161 [.ptr 0 0, .ptr 1 0] [r.b, .box (sN 6 [] (.fsl []) pl)] (.tup []) [(compF (f + 1) 6 pl r).2.b, .box (sN 6 [] (.gsl ((compF (f + 1) 6 pl r).1.blocks.map blk) 2) pl), .tip 1 (compF (f + 1) 6 pl r).1.blocks.length] := by
  have hb := ihB f (Nat.le_refl _) r h (by omega)
  have hbt := (stmt_to f).2.2.2.1 r h
  rw [compF, if_neg (by decide), if_pos rfl]
  rw [show r.head 6 = (([], ex0), r) from rfl]
  dsimp only
  generalize blockF f r = q at hb hbt ⊢
  obtain ⟨b1, r1⟩ := q
  dsimp only at hb hbt ⊢
  refine fn_sem pok 81 2 Tryz.func161 (by kernel_rfl) rfl rfl rfl rfl ?_
  refine SWp.go pok (by kernel_rfl) ?_
  refine PFun.call hb ?_
  refine SWp.tipBox 1 10 1 rfl rfl ?_
  refine SWp.loop (fun q : Nat × List (List St) × List (List D) × Rd => q.1 ≤ f ∧ q.2.2.1 = q.2.1.map blk ∧ q.2.2.2.ok ∧ 8 * q.2.2.2.m + 4 ≤ q.1 ∧ q.2.1.length + q.2.2.2.m ≤ r.m + 1 ∧ orF q.1 q.2.1 q.2.2.2 = orF f [b1] r1)
    (fun q => ([(0, .ptr 0 0), (1, .ptr 1 0)], [q.2.2.2.b, .box (sN 6 [] (.gsl q.2.2.1 2) pl), .tip 1 q.2.1.length])) (fun q => q.2.2.2.m) (f, [b1], [blk b1], r1) ⟨Nat.le_refl _, rfl, hbt.ok, by have := hbt.m; dsimp only; omega, by have := hbt.m; dsimp only [List.length]; omega, rfl⟩ (Le.same ⟨rfl, rfl, trivial⟩) (fun q hq => ?_)
  obtain ⟨f1, l, rows, r2⟩ := q
  obtain ⟨hle, hrw, hok, hfu, hln, he⟩ := hq
  dsimp only at hle hrw hok hfu hln he
  subst hrw
  have hml := r.m_len
  have hl0 := h.len
  cases f1 with
  | zero => omega
  | succ f' =>
    rw [orF] at he
    refine SWp.go pok (by kernel_rfl) ?_
    refine PFun.call (is_c r2 [111, 114] hok) ?_
    by_cases hi : r2.is [111, 114] = true
    · rw [if_pos hi] at he
      refine brP_true hi ?_
      have hr1 := hok.room (n := l.length) (most := 8)
      have hr2 := hr1.trans hr1.ok.take (c := (r2.room l.length 8).take)
      have hlt : (r2.room l.length 8).take.m < r2.m := by
        obtain ⟨d1, d2⟩ := Rd.is_not5 hi
        unfold Rd.room
        by_cases hm : (l.length : Int) ≥ 8
        · rw [if_pos hm]
          have h1 := Rd.fail_m d1 hok (e := 6) (by decide)
          have h2 := (hok.fail (e := 6) (by decide)).ok.take.m
          omega
        · rw [if_neg hm]; exact (hok.isTake hi).1
      have hbl := ihB f' (by omega) (r2.room l.length 8).take hr2.ok (by omega)
      have hbt2 := (stmt_to f').2.2.2.1 _ hr2.ok
      have hroom := room_c r2 (l.map blk).length 8 hok
      rw [List.length_map] at hroom
      refine PFun.call (by rw [List.length_map]; exact hroom) ?_
      refine PFun.call (take_c _ hr1.ok) ?_
      refine ⟨_, _, hbl, ?_⟩
      generalize blockF f' (r2.room l.length 8).take = q2 at he hbt2 ⊢
      obtain ⟨b2, r3⟩ := q2
      dsimp only at he hbt2 ⊢
      refine ⟨⟨by simp, RL_blk l, fun r hr => by simp at hr; subst hr; rfl, by simp; omega⟩, ?_⟩
      refine ⟨(f', l ++ [b2], (l ++ [b2]).map blk, r3), ⟨by omega, rfl, hbt2.ok, by have := hbt2.m; dsimp only; omega, by have := hbt2.m; dsimp only; rw [List.length_append, List.length_singleton]; omega, he⟩, by have := hbt2.m; dsimp only; omega, .inr ⟨[0, 1, 2], ⟨rfl, rfl⟩, ?_, rfl, rfl, trivial⟩⟩
      simp only [List.map_append, List.map_cons, List.map_nil, List.length_append, List.length_map]
      rfl
    · rw [if_neg hi] at he
      refine brP_false (by simpa using hi) ?_
      rw [← he]
      exact ⟨rfl, rfl⟩
end Go.Proofs.YtmflfcbebeikcaaGreatDoor.Q

namespace Go.Proofs.YtmflfcbebeikcaaGreatDoor.Q
open Go.RowKit
variable [Amb]
theorem aggk {a b : Int} (h : a = b) (l : List V) : V.agg (iv a :: l) = V.agg (iv b :: l) := by rw [h]
theorem kq {s : Str} {a b : Int} {c : Bool} (h : kindOf s = a) (e : (a == b) = c) : (kindOf s == b) = c := by rw [h]; exact e
theorem comp3_form (f : Nat) (pl : Int) (r : Rd) : (compF (f + 1) 3 pl r).1 = ⟨3, [], [], 0, r.expr.1, (compF (f + 1) 3 pl r).1.blocks, pl⟩ := by
  rw [compF, if_pos rfl, show r.head 3 = (([], r.expr.1), r.expr.2) from rfl]
  split <;> rfl
theorem comp6_form (f : Nat) (pl : Int) (r : Rd) : (compF (f + 1) 6 pl r).1 = ⟨6, [], [], 0, ex0, (compF (f + 1) 6 pl r).1.blocks, pl⟩ := by
  rw [compF, if_neg (by decide), if_pos rfl, show r.head 6 = (([], ex0), r) from rfl]
theorem comp4_form (f : Nat) (pl : Int) (r : Rd) : (compF (f + 1) 4 pl r).1 = ⟨4, [], [], 0, r.expr.1, [(blockF f r.expr.2).1], pl⟩ := by
  rw [compF, if_neg (by decide), if_neg (by decide), show r.head 4 = (([], r.expr.1), r.expr.2) from rfl]
theorem comp5_form (f : Nat) (pl : Int) (r : Rd) : (compF (f + 1) 5 pl r).1 = ⟨5, [], [], 0, ex0, [(blockF f r).1], pl⟩ := by
  rw [compF, if_neg (by decide), if_neg (by decide), show r.head 5 = (([], ex0), r) from rfl]
theorem comp7_form (f : Nat) (pl : Int) (r : Rd) : (compF (f + 1) 7 pl r).1 = ⟨7, r.name.1.1, [], 0, ex0, [(blockF f r.name.2).1], pl⟩ := by
  rw [compF, if_neg (by decide), if_neg (by decide), show r.head 7 = ((r.name.1.1, ex0), r.name.2) from rfl]

theorem stmtK3_c (f : Nat) (ihB : ∀ g ≤ f, BlockC g) (r : Rd) (h : r.ok) (hf : 8 * r.m + 1 ≤ f + 1) (h3 : r.next.kind = 3) (hk : kindOf r.next.text = 3) : PFun Tryz.prog 142 [.ptr 0 0] [r.b] (stmtF (f + 1) r).1.v [(stmtF (f + 1) r).2.b] := by
  obtain ⟨c1, c2⟩ := Rd.next_code (by decide) h3
  obtain ⟨t1, t2⟩ := h.takes c1 (by rw [c2]; decide)
  have ht := h.take
  rw [stmtF, if_neg (by omega), if_neg (by omega)]
  rw [if_pos (by omega)]
  cases f with
  | zero => omega
  | succ f =>
  have hc := comp3_c f (ihB f (by omega)) r.next.pl r.take ht.ok (by omega)
  rw [show sN 3 [] (.fsl []) r.next.pl = sN (kindOf r.next.text) [] (.fsl []) r.next.pl from by rw [hk]] at hc
  rw [hk, comp3_form]
  generalize compF (f + 1) 3 r.next.pl r.take = q at hc ⊢
  obtain ⟨x, r2⟩ := q
  dsimp only at hc ⊢
  refine fn_sem pok 103 1 Tryz.func142 (by kernel_rfl) rfl rfl rfl rfl ?_
  refine SWp.go pok (by kernel_rfl) ?_
  refine PFun.call (next_c r h) ?_
  refine ⟨_, _, kinds_c, ?_⟩
  refine .inr ?_
  refine brP_false (by simp; omega) ?_
  refine brP_false (by simp; omega) ?_
  refine brP_false (kq hk rfl) ?_
  refine PFun.call (take_c r h) ?_
  refine brP_true (kq hk rfl) ?_
  refine PCalls.mono hc ?_
  rintro res h' ⟨rfl, B, hs, rfl, hB⟩
  rcases hB with ⟨rfl, rfl⟩ | ⟨rfl, rfl⟩
  · exact ⟨rfl, rfl⟩
  · exact ⟨rfl, rfl⟩

theorem stmtK4_c (f : Nat) (ihB : ∀ g ≤ f, BlockC g) (r : Rd) (h : r.ok) (hf : 8 * r.m + 1 ≤ f + 1) (h3 : r.next.kind = 3) (hk : kindOf r.next.text = 4) : PFun Tryz.prog 142 [.ptr 0 0] [r.b] (stmtF (f + 1) r).1.v [(stmtF (f + 1) r).2.b] := by
  obtain ⟨c1, c2⟩ := Rd.next_code (by decide) h3
  obtain ⟨t1, t2⟩ := h.takes c1 (by rw [c2]; decide)
  have ht := h.take
  rw [stmtF, if_neg (by omega), if_neg (by omega)]
  rw [if_pos (by omega)]
  cases f with
  | zero => omega
  | succ f =>
  have hc := comp4_c f (ihB f (by omega)) r.next.pl r.take ht.ok (by omega)
  rw [show sN 4 [] (.fsl []) r.next.pl = sN (kindOf r.next.text) [] (.fsl []) r.next.pl from by rw [hk]] at hc
  rw [show sB 4 [] r.take.expr.1 (.fsl [blk (blockF f r.take.expr.2).1]) r.next.pl = sB (kindOf r.next.text) [] r.take.expr.1 (.fsl [blk (blockF f r.take.expr.2).1]) r.next.pl from by rw [hk]] at hc
  rw [hk, comp4_form]
  refine fn_sem pok 103 1 Tryz.func142 (by kernel_rfl) rfl rfl rfl rfl ?_
  refine SWp.go pok (by kernel_rfl) ?_
  refine PFun.call (next_c r h) ?_
  refine ⟨_, _, kinds_c, ?_⟩
  refine .inr ?_
  refine brP_false (by simp; omega) ?_
  refine brP_false (by simp; omega) ?_
  refine brP_false (kq hk rfl) ?_
  refine PFun.call (take_c r h) ?_
  refine brP_false (kq hk rfl) ?_
  refine brP_true (kq hk rfl) ?_
  refine PFun.call hc ?_
  exact ⟨aggk hk _, rfl⟩

theorem stmtK5_c (f : Nat) (ihB : ∀ g ≤ f, BlockC g) (r : Rd) (h : r.ok) (hf : 8 * r.m + 1 ≤ f + 1) (h3 : r.next.kind = 3) (hk : kindOf r.next.text = 5) : PFun Tryz.prog 142 [.ptr 0 0] [r.b] (stmtF (f + 1) r).1.v [(stmtF (f + 1) r).2.b] := by
  obtain ⟨c1, c2⟩ := Rd.next_code (by decide) h3
  obtain ⟨t1, t2⟩ := h.takes c1 (by rw [c2]; decide)
  have ht := h.take
  rw [stmtF, if_neg (by omega), if_neg (by omega)]
  rw [if_pos (by omega)]
  cases f with
  | zero => omega
  | succ f =>
  have hc := comp5_c f (ihB f (by omega)) r.next.pl r.take ht.ok (by omega)
  rw [show sN 5 [] (.fsl []) r.next.pl = sN (kindOf r.next.text) [] (.fsl []) r.next.pl from by rw [hk]] at hc
  rw [hk, comp5_form]
  refine fn_sem pok 103 1 Tryz.func142 (by kernel_rfl) rfl rfl rfl rfl ?_
  refine SWp.go pok (by kernel_rfl) ?_
  refine PFun.call (next_c r h) ?_
  refine ⟨_, _, kinds_c, ?_⟩
  refine .inr ?_
  refine brP_false (by simp; omega) ?_
  refine brP_false (by simp; omega) ?_
  refine brP_false (kq hk rfl) ?_
  refine PFun.call (take_c r h) ?_
  refine brP_false (kq hk rfl) ?_
  refine brP_false (kq hk rfl) ?_
  refine brP_true (kq hk rfl) ?_
  refine PFun.call hc ?_
  exact ⟨rfl, rfl⟩

theorem stmtK6_c (f : Nat) (ihB : ∀ g ≤ f, BlockC g) (r : Rd) (h : r.ok) (hf : 8 * r.m + 1 ≤ f + 1) (h3 : r.next.kind = 3) (hk : kindOf r.next.text = 6) : PFun Tryz.prog 142 [.ptr 0 0] [r.b] (stmtF (f + 1) r).1.v [(stmtF (f + 1) r).2.b] := by
  obtain ⟨c1, c2⟩ := Rd.next_code (by decide) h3
  obtain ⟨t1, t2⟩ := h.takes c1 (by rw [c2]; decide)
  have ht := h.take
  rw [stmtF, if_neg (by omega), if_neg (by omega)]
  rw [if_pos (by omega)]
  cases f with
  | zero => omega
  | succ f =>
  have hc := comp6_c f (fun g hg => ihB g (by omega)) r.next.pl r.take ht.ok (by omega)
  rw [show sN 6 [] (.fsl []) r.next.pl = sN (kindOf r.next.text) [] (.fsl []) r.next.pl from by rw [hk]] at hc
  rw [hk, comp6_form]
  generalize compF (f + 1) 6 r.next.pl r.take = q at hc ⊢
  obtain ⟨x, r2⟩ := q
  dsimp only at hc ⊢
  refine fn_sem pok 103 1 Tryz.func142 (by kernel_rfl) rfl rfl rfl rfl ?_
  refine SWp.go pok (by kernel_rfl) ?_
  refine PFun.call (next_c r h) ?_
  refine ⟨_, _, kinds_c, ?_⟩
  refine .inr ?_
  refine brP_false (by simp; omega) ?_
  refine brP_false (by simp; omega) ?_
  refine brP_false (kq hk rfl) ?_
  refine PFun.call (take_c r h) ?_
  refine brP_false (kq hk rfl) ?_
  refine brP_false (kq hk rfl) ?_
  refine brP_false (kq hk rfl) ?_
  refine brP_true (kq hk rfl) ?_
  refine PFun.call hc ?_
  exact ⟨rfl, rfl⟩

theorem stmtK7_c (f : Nat) (ihB : ∀ g ≤ f, BlockC g) (r : Rd) (h : r.ok) (hf : 8 * r.m + 1 ≤ f + 1) (h3 : r.next.kind = 3) (hk : kindOf r.next.text = 7) : PFun Tryz.prog 142 [.ptr 0 0] [r.b] (stmtF (f + 1) r).1.v [(stmtF (f + 1) r).2.b] := by
  obtain ⟨c1, c2⟩ := Rd.next_code (by decide) h3
  obtain ⟨t1, t2⟩ := h.takes c1 (by rw [c2]; decide)
  have ht := h.take
  rw [stmtF, if_neg (by omega), if_neg (by omega)]
  rw [if_pos (by omega)]
  cases f with
  | zero => omega
  | succ f =>
  have hc := comp7_c f (ihB f (by omega)) r.next.pl r.take ht.ok (by omega)
  rw [show sN 7 [] (.fsl []) r.next.pl = sN (kindOf r.next.text) [] (.fsl []) r.next.pl from by rw [hk]] at hc
  rw [hk, comp7_form]
  refine fn_sem pok 103 1 Tryz.func142 (by kernel_rfl) rfl rfl rfl rfl ?_
  refine SWp.go pok (by kernel_rfl) ?_
  refine PFun.call (next_c r h) ?_
  refine ⟨_, _, kinds_c, ?_⟩
  refine .inr ?_
  refine brP_false (by simp; omega) ?_
  refine brP_false (by simp; omega) ?_
  refine brP_false (kq hk rfl) ?_
  refine PFun.call (take_c r h) ?_
  refine brP_false (kq hk rfl) ?_
  refine brP_false (kq hk rfl) ?_
  refine brP_false (kq hk rfl) ?_
  refine brP_false (kq hk rfl) ?_
  refine brP_true (kq hk rfl) ?_
  refine PFun.call hc ?_
  exact ⟨rfl, rfl⟩

theorem stmtK1_c (f : Nat) (ihB : ∀ g ≤ f, BlockC g) (r : Rd) (h : r.ok) (hf : 8 * r.m + 1 ≤ f + 1) (h3 : r.next.kind = 3) (hk : kindOf r.next.text = 1) : PFun Tryz.prog 142 [.ptr 0 0] [r.b] (stmtF (f + 1) r).1.v [(stmtF (f + 1) r).2.b] := by
  obtain ⟨c1, c2⟩ := Rd.next_code (by decide) h3
  obtain ⟨t1, t2⟩ := h.takes c1 (by rw [c2]; decide)
  have ht := h.take
  rw [stmtF, if_neg (by omega), if_neg (by omega)]
  rw [if_neg (by omega)]
  rw [hk]
  show PFun _ _ _ _ (St.mk 1 [] [] 0 ex0 [] r.next.pl).v [(r.take.must [59]).b]
  refine fn_sem pok 103 1 Tryz.func142 (by kernel_rfl) rfl rfl rfl rfl ?_
  refine SWp.go pok (by kernel_rfl) ?_
  refine PFun.call (next_c r h) ?_
  refine ⟨_, _, kinds_c, ?_⟩
  refine .inr ?_
  refine brP_false (by simp; omega) ?_
  refine brP_false (by simp; omega) ?_
  refine brP_false (kq hk rfl) ?_
  refine PFun.call (take_c r h) ?_
  refine brP_false (kq hk rfl) ?_
  refine brP_false (kq hk rfl) ?_
  refine brP_false (kq hk rfl) ?_
  refine brP_false (kq hk rfl) ?_
  refine brP_false (kq hk rfl) ?_
  refine brP_false (kq hk rfl) ?_
  refine brP_false (kq hk rfl) ?_
  refine brP_false (kq hk rfl) ?_
  refine brP_false (kq hk rfl) ?_
  refine brP_false (kq hk rfl) ?_
  refine PFun.call (must_c _ [59] ht.ok) ?_
  exact ⟨aggk hk _, rfl⟩

theorem stmtK8_c (f : Nat) (ihB : ∀ g ≤ f, BlockC g) (r : Rd) (h : r.ok) (hf : 8 * r.m + 1 ≤ f + 1) (h3 : r.next.kind = 3) (hk : kindOf r.next.text = 8) : PFun Tryz.prog 142 [.ptr 0 0] [r.b] (stmtF (f + 1) r).1.v [(stmtF (f + 1) r).2.b] := by
  obtain ⟨c1, c2⟩ := Rd.next_code (by decide) h3
  obtain ⟨t1, t2⟩ := h.takes c1 (by rw [c2]; decide)
  have ht := h.take
  rw [stmtF, if_neg (by omega), if_neg (by omega)]
  rw [if_neg (by omega)]
  rw [hk]
  show PFun _ _ _ _ (St.mk 8 r.take.pair.1.1 r.take.pair.1.2 0 ex0 [] r.next.pl).v [(r.take.pair.2.must [59]).b]
  have h2 := ht.ok.pair
  refine fn_sem pok 103 1 Tryz.func142 (by kernel_rfl) rfl rfl rfl rfl ?_
  refine SWp.go pok (by kernel_rfl) ?_
  refine PFun.call (next_c r h) ?_
  refine ⟨_, _, kinds_c, ?_⟩
  refine .inr ?_
  refine brP_false (by simp; omega) ?_
  refine brP_false (by simp; omega) ?_
  refine brP_false (kq hk rfl) ?_
  refine PFun.call (take_c r h) ?_
  refine brP_false (kq hk rfl) ?_
  refine brP_false (kq hk rfl) ?_
  refine brP_false (kq hk rfl) ?_
  refine brP_false (kq hk rfl) ?_
  refine brP_false (kq hk rfl) ?_
  refine brP_true (kq hk rfl) ?_
  refine PFun.call (pair_c r.take ht.ok) ?_
  refine brP_false (kq hk rfl) ?_
  refine PFun.call (must_c _ [59] h2.ok) ?_
  exact ⟨aggk hk _, rfl⟩

theorem stmtK9_c (f : Nat) (ihB : ∀ g ≤ f, BlockC g) (r : Rd) (h : r.ok) (hf : 8 * r.m + 1 ≤ f + 1) (h3 : r.next.kind = 3) (hk : kindOf r.next.text = 9) : PFun Tryz.prog 142 [.ptr 0 0] [r.b] (stmtF (f + 1) r).1.v [(stmtF (f + 1) r).2.b] := by
  obtain ⟨c1, c2⟩ := Rd.next_code (by decide) h3
  obtain ⟨t1, t2⟩ := h.takes c1 (by rw [c2]; decide)
  have ht := h.take
  rw [stmtF, if_neg (by omega), if_neg (by omega)]
  rw [if_neg (by omega)]
  rw [hk]
  show PFun _ _ _ _ (St.mk 9 r.take.name.1.1 [] r.take.name.2.wait.1 ex0 [] r.next.pl).v [(r.take.name.2.wait.2.must [59]).b]
  have h2 := ht.ok.name
  refine fn_sem pok 103 1 Tryz.func142 (by kernel_rfl) rfl rfl rfl rfl ?_
  refine SWp.go pok (by kernel_rfl) ?_
  refine PFun.call (next_c r h) ?_
  refine ⟨_, _, kinds_c, ?_⟩
  refine .inr ?_
  refine brP_false (by simp; omega) ?_
  refine brP_false (by simp; omega) ?_
  refine brP_false (kq hk rfl) ?_
  refine PFun.call (take_c r h) ?_
  refine brP_false (kq hk rfl) ?_
  refine brP_false (kq hk rfl) ?_
  refine brP_false (kq hk rfl) ?_
  refine brP_false (kq hk rfl) ?_
  refine brP_false (kq hk rfl) ?_
  refine brP_false (kq hk rfl) ?_
  refine brP_true (kq hk rfl) ?_
  refine PFun.call (name_c r.take ht.ok) ?_
  refine brP_true (kq hk rfl) ?_
  generalize r.take.name = q at h2 ⊢
  obtain ⟨⟨nm, np⟩, r2⟩ := q
  dsimp only at h2 ⊢
  have hw := h2.ok.wait
  refine PFun.call (next_c r2 h2.ok) ?_
  unfold Rd.wait at hw ⊢
  refine brP_split (fun h5 => ?_) (fun h5 => ?_)
  · rw [if_pos (by simpa using h5)] at hw ⊢
    refine PFun.call (next_c r2 h2.ok) ?_
    refine brP_split (fun h6 => ?_) (fun h6 => ?_)
    · rw [if_pos (by simpa using h6)] at hw ⊢
      refine PFun.call (fail_c r2 40 h2.ok) ?_
      refine PFun.call (take_c _ (h2.ok.fail (by decide)).ok) ?_
      refine PFun.call (must_c _ [59] hw.ok) ?_
      exact ⟨aggk hk _, rfl⟩
    · rw [if_neg (by simpa using h6)] at hw ⊢
      refine PFun.call (take_c _ h2.ok) ?_
      refine PFun.call (must_c _ [59] hw.ok) ?_
      exact ⟨aggk hk _, rfl⟩
  · rw [if_neg (by simpa using h5)] at hw ⊢
    refine PFun.call (must_c _ [59] h2.ok) ?_
    exact ⟨aggk hk _, rfl⟩

theorem stmtK10_c (f : Nat) (ihB : ∀ g ≤ f, BlockC g) (r : Rd) (h : r.ok) (hf : 8 * r.m + 1 ≤ f + 1) (h3 : r.next.kind = 3) (hk : kindOf r.next.text = 10) : PFun Tryz.prog 142 [.ptr 0 0] [r.b] (stmtF (f + 1) r).1.v [(stmtF (f + 1) r).2.b] := by
  obtain ⟨c1, c2⟩ := Rd.next_code (by decide) h3
  obtain ⟨t1, t2⟩ := h.takes c1 (by rw [c2]; decide)
  have ht := h.take
  rw [stmtF, if_neg (by omega), if_neg (by omega)]
  rw [if_neg (by omega)]
  rw [hk]
  show PFun _ _ _ _ (St.mk 10 r.take.name.1.1 [] 0 ex0 [] r.next.pl).v [(r.take.name.2.must [59]).b]
  have h2 := ht.ok.name
  refine fn_sem pok 103 1 Tryz.func142 (by kernel_rfl) rfl rfl rfl rfl ?_
  refine SWp.go pok (by kernel_rfl) ?_
  refine PFun.call (next_c r h) ?_
  refine ⟨_, _, kinds_c, ?_⟩
  refine .inr ?_
  refine brP_false (by simp; omega) ?_
  refine brP_false (by simp; omega) ?_
  refine brP_false (kq hk rfl) ?_
  refine PFun.call (take_c r h) ?_
  refine brP_false (kq hk rfl) ?_
  refine brP_false (kq hk rfl) ?_
  refine brP_false (kq hk rfl) ?_
  refine brP_false (kq hk rfl) ?_
  refine brP_false (kq hk rfl) ?_
  refine brP_false (kq hk rfl) ?_
  refine brP_false (kq hk rfl) ?_
  refine brP_true (kq hk rfl) ?_
  refine PFun.call (name_c r.take ht.ok) ?_
  refine brP_false (kq hk rfl) ?_
  refine PFun.call (must_c _ [59] h2.ok) ?_
  exact ⟨aggk hk _, rfl⟩

theorem stmtK11_c (f : Nat) (ihB : ∀ g ≤ f, BlockC g) (r : Rd) (h : r.ok) (hf : 8 * r.m + 1 ≤ f + 1) (h3 : r.next.kind = 3) (hk : kindOf r.next.text = 11) : PFun Tryz.prog 142 [.ptr 0 0] [r.b] (stmtF (f + 1) r).1.v [(stmtF (f + 1) r).2.b] := by
  obtain ⟨c1, c2⟩ := Rd.next_code (by decide) h3
  obtain ⟨t1, t2⟩ := h.takes c1 (by rw [c2]; decide)
  have ht := h.take
  rw [stmtF, if_neg (by omega), if_neg (by omega)]
  rw [if_neg (by omega)]
  rw [hk]
  show PFun _ _ _ _ (St.mk 11 r.take.name.1.1 [] 0 ex0 [] r.next.pl).v [(r.take.name.2.must [59]).b]
  have h2 := ht.ok.name
  refine fn_sem pok 103 1 Tryz.func142 (by kernel_rfl) rfl rfl rfl rfl ?_
  refine SWp.go pok (by kernel_rfl) ?_
  refine PFun.call (next_c r h) ?_
  refine ⟨_, _, kinds_c, ?_⟩
  refine .inr ?_
  refine brP_false (by simp; omega) ?_
  refine brP_false (by simp; omega) ?_
  refine brP_false (kq hk rfl) ?_
  refine PFun.call (take_c r h) ?_
  refine brP_false (kq hk rfl) ?_
  refine brP_false (kq hk rfl) ?_
  refine brP_false (kq hk rfl) ?_
  refine brP_false (kq hk rfl) ?_
  refine brP_false (kq hk rfl) ?_
  refine brP_false (kq hk rfl) ?_
  refine brP_false (kq hk rfl) ?_
  refine brP_false (kq hk rfl) ?_
  refine brP_true (kq hk rfl) ?_
  refine PFun.call (name_c r.take ht.ok) ?_
  refine brP_false (kq hk rfl) ?_
  refine PFun.call (must_c _ [59] h2.ok) ?_
  exact ⟨aggk hk _, rfl⟩

theorem stmt_c (f : Nat) (ihB : ∀ g ≤ f, BlockC g) (r : Rd) (h : r.ok) (hf : 8 * r.m + 1 ≤ f + 1) : PFun Tryz.prog 142 [.ptr 0 0] [r.b] (stmtF (f + 1) r).1.v [(stmtF (f + 1) r).2.b] := by
  by_cases h1 : r.next.kind = 1
  · rw [stmtF, if_pos h1]
    have h2 := h.pair
    have h3 := h2.trans h2.ok.must (c := r.pair.2.must [61])
    have h4 := h3.trans h3.ok.expr
    refine fn_sem pok 103 1 Tryz.func142 (by kernel_rfl) rfl rfl rfl rfl ?_
    refine SWp.go pok (by kernel_rfl) ?_
    refine PFun.call (next_c r h) ?_
    refine ⟨_, _, kinds_c, ?_⟩
    refine .inr ?_
    refine brP_true (by simpa using h1) ?_
    refine PFun.call (pair_c r h) ?_
    refine PFun.call (must_c _ [61] h2.ok) ?_
    refine PFun.call (expr_c _ h3.ok) ?_
    refine PFun.call (must_c _ [59] h4.ok) ?_
    exact ⟨rfl, rfl⟩
  by_cases h3 : r.next.kind = 3
  · rcases kindOf_in r.next.text with hk | hk | hk | hk | hk | hk | hk | hk | hk | hk | hk
    · rw [stmtF, if_neg h1, if_pos (.inr hk)]
      refine fn_sem pok 103 1 Tryz.func142 (by kernel_rfl) rfl rfl rfl rfl ?_
      refine SWp.go pok (by kernel_rfl) ?_
      refine PFun.call (next_c r h) ?_
      refine ⟨_, _, kinds_c, ?_⟩
      refine .inr ?_
      refine brP_false (by simp; omega) ?_
      refine brP_false (by simp; omega) ?_
      refine brP_true (kq hk rfl) ?_
      refine PFun.call (fail_c r 40 h) ?_
      exact ⟨rfl, rfl⟩
    · exact stmtK1_c f ihB r h hf h3 hk
    · exact stmtK3_c f ihB r h hf h3 hk
    · exact stmtK4_c f ihB r h hf h3 hk
    · exact stmtK5_c f ihB r h hf h3 hk
    · exact stmtK6_c f ihB r h hf h3 hk
    · exact stmtK7_c f ihB r h hf h3 hk
    · exact stmtK8_c f ihB r h hf h3 hk
    · exact stmtK9_c f ihB r h hf h3 hk
    · exact stmtK10_c f ihB r h hf h3 hk
    · exact stmtK11_c f ihB r h hf h3 hk
  · rw [stmtF, if_neg h1, if_pos (.inl h3)]
    refine fn_sem pok 103 1 Tryz.func142 (by kernel_rfl) rfl rfl rfl rfl ?_
    refine SWp.go pok (by kernel_rfl) ?_
    refine PFun.call (next_c r h) ?_
    refine ⟨_, _, kinds_c, ?_⟩
    refine .inr ?_
    refine brP_false (by simp; omega) ?_
    refine brP_true (by simp; omega) ?_
    refine PFun.call (fail_c r 40 h) ?_
    exact ⟨rfl, rfl⟩
theorem stmt_w (N : Nat) : ∀ f ≤ N, StmtC f ∧ BlockC f := by
  induction N with
  | zero => exact fun f hf => ⟨fun r _ h => by omega, fun r _ h => by omega⟩
  | succ N ih =>
    intro f hf
    refine ⟨fun r h hm => ?_, fun r h hm => ?_⟩
    · cases f with
      | zero => omega
      | succ f => exact stmt_c f (fun g hg => (ih g (by omega)).2) r h hm
    · cases f with
      | zero => omega
      | succ f => cases f with
        | zero => omega
        | succ f => exact block_w f (fun g hg => (ih g (by omega)).1) r h hm
/-- A block is read. -/
def Rd.block (r : Rd) : List St × Rd := blockF (8 * r.m + 3) r
theorem block_c (r : Rd) (h : r.ok) : PFun Tryz.prog 112 [.ptr 0 0] [r.b] (.d (.sl (r.block.1.map St.c))) [r.block.2.b] :=
  (stmt_w _ _ (Nat.le_refl _)).2 r h (Nat.le_refl _)
theorem Rd.ok.block {r : Rd} (h : r.ok) : r.to r.block.2 := (stmt_to _).2.2.2.1 r h
end Go.Proofs.YtmflfcbebeikcaaGreatDoor.Q

namespace Go.Proofs.YtmflfcbebeikcaaGreatDoor.Q
open Go.RowKit
variable [Amb]
def Rd.whole (r : Rd) : Int × Rd := (if (r.may [45]).1 = true then IntKind.i64.wrap (0 - ((r.may [45]).2.of 2).1.n) else ((r.may [45]).2.of 2).1.n, ((r.may [45]).2.of 2).2)
theorem Rd.ok.whole {r : Rd} (h : r.ok) : r.to r.whole.2 := h.may.trans h.may.ok.of
theorem whole_c (r : Rd) (h : r.ok) : PFun Tryz.prog 140 [.ptr 0 0] [r.b] (iv r.whole.1) [r.whole.2.b] := by
  have hm := h.may (s := [45])
  refine fn_sem pok 14 1 Tryz.func140 (by kernel_rfl) rfl rfl rfl rfl ?_
  refine SWp.go pok (by kernel_rfl) ?_
  refine PFun.call (may_c r [45] h) ?_
  refine PFun.call (of_c _ 2 hm.ok) ?_
  unfold Rd.whole
  refine brP_split (fun h1 => ?_) (fun h1 => ?_)
  · rw [if_pos h1]; exact ⟨rfl, rfl⟩
  · rw [if_neg (by rw [h1]; simp)]; exact ⟨rfl, rfl⟩
/-- The bounds of a variable. -/
def Rd.rng (r : Rd) : (Int × Int) × Rd :=
  ((r.whole.1, (r.whole.2.must [46, 46]).whole.1), if (r.whole.2.must [46, 46]).whole.1 < r.whole.1 ∧ (r.whole.2.must [46, 46]).whole.2.code = 0 then ⟨40, (r.whole.2.must [46, 46]).next.pl, (r.whole.2.must [46, 46]).whole.2.toks, (r.whole.2.must [46, 46]).whole.2.opn⟩ else (r.whole.2.must [46, 46]).whole.2)
theorem Rd.ok.rng {r : Rd} (h : r.ok) : r.to r.rng.2 := by
  have h1 := h.whole.trans h.whole.ok.must (c := r.whole.2.must [46, 46])
  have h2 := h1.trans h1.ok.whole
  unfold Rd.rng
  dsimp only
  split
  · refine ⟨⟨h2.ok.last, h2.ok.len, h2.ok.o0, h2.ok.o1, fun e => absurd e (by show ¬ (40 : Int) = 0; decide)⟩, ?_, h2.opn⟩
    unfold Rd.m; rw [if_neg (by show ¬ (40 : Int) = 0; decide)]; omega
  · exact h2
def Rd.fin (r : Rd) : Int × Rd := ((r.must [61]).whole.1, (r.must [61]).whole.2.must [59])
theorem Rd.ok.fin {r : Rd} (h : r.ok) : r.to r.fin.2 := by
  have h1 := h.must.trans h.must.ok.whole (c := (r.must [61]).whole.2)
  exact h1.trans h1.ok.must
/-- A variable's bool. -/
def Rd.bol (r : Rd) : Int × Rd := if (r.must [61]).is [116, 114, 117, 101] = true then (1, (r.must [61]).take.must [59]) else (0, ((r.must [61]).must [102, 97, 108, 115, 101]).must [59])
theorem Rd.ok.bol {r : Rd} (h : r.ok) : r.to r.bol.2 := by
  have h1 := h.must (s := [61])
  unfold Rd.bol
  split
  · have := h1.trans h1.ok.take
    exact this.trans this.ok.must
  · have := h1.trans h1.ok.must (c := (r.must [61]).must [102, 97, 108, 115, 101])
    exact this.trans this.ok.must
def Rd.var (r : Rd) : Vr × Rd :=
  if (r.name.2.must [58]).is [98, 111, 111, 108] = true then (⟨r.name.1.1, 1, 0, 0, (r.name.2.must [58]).take.bol.1, r.name.1.2⟩, (r.name.2.must [58]).take.bol.2)
  else if (r.name.2.must [58]).is [105, 110, 116] = true then (⟨r.name.1.1, 2, 0, 0, (r.name.2.must [58]).take.fin.1, r.name.1.2⟩, (r.name.2.must [58]).take.fin.2)
  else (⟨r.name.1.1, 3, (r.name.2.must [58]).rng.1.1, (r.name.2.must [58]).rng.1.2, (r.name.2.must [58]).rng.2.fin.1, r.name.1.2⟩, (r.name.2.must [58]).rng.2.fin.2)
theorem Rd.ok.var {r : Rd} (h : r.ok) : r.to r.var.2 := by
  have h1 := h.name.trans h.name.ok.must (c := r.name.2.must [58])
  unfold Rd.var
  split
  · exact h1.trans (h1.ok.take.trans h1.ok.take.ok.bol)
  · split
    · exact h1.trans (h1.ok.take.trans h1.ok.take.ok.fin)
    · exact h1.trans (h1.ok.rng.trans h1.ok.rng.ok.fin)
theorem var_c (r : Rd) (h : r.ok) : PFun Tryz.prog 109 [.ptr 0 0] [r.b] r.var.1.v [r.var.2.b] := by
  have h0 := h.name
  have h1 := h0.trans h0.ok.must (c := r.name.2.must [58])
  refine fn_sem pok 80 1 Tryz.func109 (by kernel_rfl) rfl rfl rfl rfl ?_
  refine SWp.go pok (by kernel_rfl) ?_
  unfold Rd.var
  refine PFun.call (name_c r h) ?_
  generalize r.name = q at h0 h1 ⊢
  obtain ⟨⟨nm, np⟩, r0⟩ := q
  dsimp only at h0 h1 ⊢
  refine PFun.call (must_c r0 [58] h0.ok) ?_
  generalize r0.must [58] = r1 at h1 ⊢
  refine PFun.call (may_c r1 [98, 111, 111, 108] h1.ok) ?_
  unfold Rd.may
  by_cases hb : r1.is [98, 111, 111, 108] = true
  · rw [if_pos hb, if_pos hb]
    have ht := h1.ok.take
    generalize r1.take = r2 at ht ⊢
    have hm := ht.ok.must (s := [61])
    refine PFun.call (must_c r2 [61] ht.ok) ?_
    unfold Rd.bol
    refine PFun.call (may_c _ [116, 114, 117, 101] hm.ok) ?_
    unfold Rd.may
    by_cases hs : (r2.must [61]).is [116, 114, 117, 101] = true
    · rw [if_pos hs, if_pos hs]
      refine PFun.call (must_c _ [59] hm.ok.take.ok) ?_
      exact ⟨rfl, rfl⟩
    · rw [if_neg hs, if_neg hs]
      refine PFun.call (must_c _ [102, 97, 108, 115, 101] hm.ok) ?_
      refine PFun.call (must_c _ [59] hm.ok.must.ok) ?_
      exact ⟨rfl, rfl⟩
  rw [if_neg hb, if_neg hb]
  refine PFun.call (may_c r1 [105, 110, 116] h1.ok) ?_
  unfold Rd.may
  by_cases hi : r1.is [105, 110, 116] = true
  · rw [if_pos hi, if_pos hi]
    have ht := h1.ok.take
    generalize r1.take = r2 at ht ⊢
    have hm := ht.ok.must (s := [61])
    refine PFun.call (must_c r2 [61] ht.ok) ?_
    refine PFun.call (whole_c _ hm.ok) ?_
    refine PFun.call (must_c _ [59] hm.ok.whole.ok) ?_
    exact ⟨rfl, rfl⟩
  rw [if_neg hi, if_neg hi]
  have hw := h1.ok.whole
  have hr := h1.ok.rng
  unfold Rd.rng at hr ⊢
  refine PFun.call (whole_c r1 h1.ok) ?_
  generalize r1.whole = q at hw hr ⊢
  obtain ⟨lo, r2⟩ := q
  dsimp only at hw hr ⊢
  have hm := hw.ok.must (s := [46, 46])
  refine PFun.call (must_c r2 [46, 46] hw.ok) ?_
  generalize r2.must [46, 46] = r3 at hm hr ⊢
  refine PFun.call (next_c r3 hm.ok) ?_
  have hw2 := hm.ok.whole
  refine PFun.call (whole_c r3 hm.ok) ?_
  generalize r3.whole = q at hw2 hr ⊢
  obtain ⟨hi_, r4⟩ := q
  dsimp only at hw2 hr ⊢
  by_cases hc : hi_ < lo ∧ r4.code = 0
  · rw [if_pos hc] at hr ⊢
    refine brP_true (by simpa using hc.1) ?_
    refine brP_true (by simpa using hc.2) ?_
    have hm5 := hr.ok.must (s := [61])
    refine PFun.call (must_c ⟨40, r3.next.pl, r4.toks, r4.opn⟩ [61] hr.ok) ?_
    refine PFun.call (whole_c _ hm5.ok) ?_
    refine PFun.call (must_c _ [59] hm5.ok.whole.ok) ?_
    exact ⟨rfl, rfl⟩
  · rw [if_neg hc] at hr ⊢
    have hm5 := hr.ok.must (s := [61])
    refine brP_split (fun hlt => ?_) (fun hlt => ?_)
    · refine brP_false (by simp; intro e; exact hc ⟨by simpa using hlt, e⟩) ?_
      refine PFun.call (must_c r4 [61] hr.ok) ?_
      refine PFun.call (whole_c _ hm5.ok) ?_
      refine PFun.call (must_c _ [59] hm5.ok.whole.ok) ?_
      exact ⟨rfl, rfl⟩
    · refine PFun.call (must_c r4 [61] hr.ok) ?_
      refine PFun.call (whole_c _ hm5.ok) ?_
      refine PFun.call (must_c _ [59] hm5.ok.whole.ok) ?_
      exact ⟨rfl, rfl⟩
def Rd.meth (r : Rd) : Mt × Rd := (⟨r.name.1.1, r.name.2.block.1, r.name.1.2⟩, r.name.2.block.2)
theorem Rd.ok.meth {r : Rd} (h : r.ok) : r.to r.meth.2 := h.name.trans h.name.ok.block
theorem meth_c (r : Rd) (h : r.ok) : PFun Tryz.prog 110 [.ptr 0 0] [r.b] r.meth.1.v [r.meth.2.b] := by
  refine fn_sem pok 14 1 Tryz.func110 (by kernel_rfl) rfl rfl rfl rfl ?_
  refine SWp.go pok (by kernel_rfl) ?_
  refine PFun.call (name_c r h) ?_
  refine PFun.call (block_c _ h.name.ok) ?_
  exact ⟨rfl, rfl⟩
def Rd.cnt (r : Rd) : (Bool × Int) × Rd := if r.next.kind = 2 then ((false, r.next.n), r.take) else ((true, 0), r.must [42])
theorem Rd.ok.cnt {r : Rd} (h : r.ok) : r.to r.cnt.2 := by
  unfold Rd.cnt; split
  · exact h.take
  · exact h.must
def Rd.role (r : Rd) : Ro × Rd := (⟨r.name.1.1, r.name.2.cnt.1.1, r.name.2.cnt.1.2, r.name.2.cnt.2.block.1, r.name.1.2⟩, r.name.2.cnt.2.block.2)
theorem Rd.ok.role {r : Rd} (h : r.ok) : r.to r.role.2 := by
  have := h.name.trans h.name.ok.cnt
  exact this.trans this.ok.block
theorem role_c (r : Rd) (h : r.ok) : PFun Tryz.prog 67 [.ptr 0 0] [r.b] r.role.1.v [r.role.2.b] := by
  have h0 := h.name
  unfold Rd.role
  refine fn_sem pok 26 1 Tryz.func67 (by kernel_rfl) rfl rfl rfl rfl ?_
  refine SWp.go pok (by kernel_rfl) ?_
  refine PFun.call (name_c r h) ?_
  generalize r.name = q at h0 ⊢
  obtain ⟨⟨nm, np⟩, r1⟩ := q
  dsimp only at h0 ⊢
  have hc := h0.ok.cnt
  refine PFun.call (next_c r1 h0.ok) ?_
  unfold Rd.cnt at hc ⊢
  refine brP_split (fun h1 => ?_) (fun h1 => ?_)
  · rw [if_pos (by simpa using h1)] at hc ⊢
    refine PFun.call (take_c r1 h0.ok) ?_
    refine PFun.call (block_c _ hc.ok) ?_
    exact ⟨rfl, rfl⟩
  · rw [if_neg (by simpa using h1)] at hc ⊢
    refine PFun.call (must_c r1 [42] h0.ok) ?_
    refine PFun.call (block_c _ hc.ok) ?_
    exact ⟨rfl, rfl⟩
end Go.Proofs.YtmflfcbebeikcaaGreatDoor.Q

namespace Go.Proofs.YtmflfcbebeikcaaGreatDoor.Q
open Go.RowKit
variable [Amb]
def wVar : Str := [118, 97, 114]
def wMethod : Str := [109, 101, 116, 104, 111, 100]
def wMonitor : Str := [109, 111, 110, 105, 116, 111, 114]
def wThread : Str := [116, 104, 114, 101, 97, 100]

def varsF : Nat → List Vr → Rd → List Vr × Rd
  | 0, l, r => (l, r)
  | f + 1, l, r => if r.is wVar = true then varsF f (l ++ [(r.room l.length 16).take.var.1]) (r.room l.length 16).take.var.2 else (l, r)
def methsF : Nat → List Mt → Rd → List Mt × Rd
  | 0, l, r => (l, r)
  | f + 1, l, r => if r.is wMethod = true then methsF f (l ++ [(r.room l.length 16).take.meth.1]) (r.room l.length 16).take.meth.2 else (l, r)
theorem Rd.ok.roomTake {r : Rd} (h : r.ok) {s : Str} (hi : r.is s = true) (n most : Int) : r.to (r.room n most).take ∧ (r.room n most).take.m < r.m := by
  have h1 := h.room (n := n) (most := most)
  refine ⟨h1.trans h1.ok.take, ?_⟩
  obtain ⟨d1, d2⟩ := Rd.is_not5 hi
  unfold Rd.room
  by_cases hm : n ≥ most
  · rw [if_pos hm]
    have h1 := Rd.fail_m d1 h (e := 6) (by decide)
    have h2 := (h.fail (e := 6) (by decide)).ok.take.m
    omega
  · rw [if_neg hm]; exact (h.isTake hi).1
theorem vars_to (f : Nat) : ∀ (l : List Vr) (r : Rd), r.ok → r.to (varsF f l r).2 := by
  induction f with
  | zero => exact fun l r h => h.to
  | succ f ih =>
    intro l r h
    rw [varsF]
    split
    · rename_i hi
      have h1 := (h.roomTake hi l.length 16).1
      have h2 := h1.trans h1.ok.var
      exact h2.trans (ih _ _ h2.ok)
    · exact h.to
theorem meths_to (f : Nat) : ∀ (l : List Mt) (r : Rd), r.ok → r.to (methsF f l r).2 := by
  induction f with
  | zero => exact fun l r h => h.to
  | succ f ih =>
    intro l r h
    rw [methsF]
    split
    · rename_i hi
      have h1 := (h.roomTake hi l.length 16).1
      have h2 := h1.trans h1.ok.meth
      exact h2.trans (ih _ _ h2.ok)
    · exact h.to
def Rd.vars (r : Rd) : List Vr × Rd := varsF (r.m + 1) [] r
def Rd.meths (r : Rd) : List Mt × Rd := methsF (r.m + 1) [] r
/-- What a monitor has between { and }. -/
def Rd.monB (r : Rd) : (List Vr × List Mt) × Rd := ((r.vars.1, r.vars.2.meths.1), r.vars.2.meths.2.must [125])
theorem Rd.ok.monB {r : Rd} (h : r.ok) : r.to r.monB.2 := by
  have h1 := vars_to (r.m + 1) [] r h
  have h2 := h1.trans (meths_to (r.vars.2.m + 1) [] r.vars.2 h1.ok)
  exact h2.trans h2.ok.must
theorem mon1_c (nm : Str) (pl : Int) (r : Rd) (h : r.ok) :
    PFun Tryz.prog 108 [.ptr 0 0, .ptr 2 0] [.box [.ptr 1 0], r.b, .box [sv' nm, .fsl [], .fsl [], iv pl]] (.tup [])
      [.box [.ptr 1 0], r.monB.2.b, .box [sv' nm, .gsl (r.monB.1.1.map Vr.c) 3, .gsl (r.monB.1.2.map Mt.c) 4, iv pl], .tip 6 r.monB.1.1.length, .tip 3 r.monB.1.2.length] := by
  have hl0 := h.len
  refine fn_sem pok 37 3 Tryz.func108 (by kernel_rfl) rfl rfl rfl rfl ?_
  refine SWp.go pok (by kernel_rfl) ?_
  refine SWp.tipBox 2 1 6 rfl rfl ?_
  refine SWp.loop (fun q : Nat × List Vr × List (List D) × Rd => q.1 ≤ r.m + 1 ∧ q.2.2.1 = q.2.1.map Vr.c ∧ q.2.2.2.ok ∧ q.2.2.2.m < q.1 ∧ q.2.1.length + q.2.2.2.m ≤ r.m ∧ varsF q.1 q.2.1 q.2.2.2 = r.vars)
    (fun q => ([(0, .ptr 0 0), (1, .ptr 2 0)], [.box [.ptr 1 0], q.2.2.2.b, .box [sv' nm, .gsl q.2.2.1 3, .fsl [], iv pl], .tip 6 q.2.1.length])) (fun q => q.2.2.2.m) (r.m + 1, [], [], r) ⟨Nat.le_refl _, rfl, h, by dsimp only; omega, by dsimp only; simp, rfl⟩ (Le.same ⟨rfl, rfl, trivial⟩) (fun q hq => ?_)
  obtain ⟨f1, l, rows, r1⟩ := q
  obtain ⟨hle, hrw, hok, hfu, hln, he⟩ := hq
  dsimp only at hle hrw hok hfu hln he
  subst hrw
  have hml := r.m_len
  cases f1 with
  | zero => omega
  | succ f' =>
    rw [varsF] at he
    refine SWp.go pok (by kernel_rfl) ?_
    refine PFun.call (is_c r1 wVar hok) ?_
    by_cases hi : r1.is wVar = true
    · rw [if_pos hi] at he
      refine brP_true hi ?_
      obtain ⟨t1, t2⟩ := hok.roomTake hi l.length 16
      have hroom := room_c r1 (l.map Vr.c).length 16 hok
      rw [List.length_map] at hroom
      refine PFun.call (by rw [List.length_map]; exact hroom) ?_
      refine PFun.call (take_c _ hok.room.ok) ?_
      have hv := t1.ok.var
      refine ⟨_, _, var_c _ t1.ok, ?_⟩
      generalize (r1.room l.length 16).take.var = q2 at he hv ⊢
      obtain ⟨x, r2⟩ := q2
      dsimp only at he hv ⊢
      have hvm := hv.m
      refine ⟨⟨by simp, RL_vr l, fun r hr => by simp at hr; subst hr; rfl, by simp; omega⟩, ?_⟩
      refine ⟨(f', l ++ [x], (l ++ [x]).map Vr.c, r2), ⟨by omega, rfl, hv.ok, by dsimp only; omega, by dsimp only; rw [List.length_append, List.length_singleton]; omega, he⟩, by dsimp only; omega, .inr ⟨[0, 1, 2, 3], ⟨rfl, rfl⟩, ?_, rfl, rfl, trivial⟩⟩
      simp only [List.map_append, List.map_cons, List.map_nil, List.length_append, List.length_map]
      rfl
    · rw [if_neg hi] at he
      refine brP_false (by simpa using hi) ?_
      unfold Rd.monB
      rw [← he]
      dsimp only
      refine SWp.tipBox 2 2 3 rfl rfl ?_
      refine SWp.loop (fun q : Nat × List Mt × List (List D) × Rd => q.1 ≤ r1.m + 1 ∧ q.2.2.1 = q.2.1.map Mt.c ∧ q.2.2.2.ok ∧ q.2.2.2.m < q.1 ∧ q.2.1.length + q.2.2.2.m ≤ r1.m ∧ methsF q.1 q.2.1 q.2.2.2 = r1.meths)
        (fun q => ([(0, .ptr 0 0), (1, .ptr 2 0)], [.box [.ptr 1 0], q.2.2.2.b, .box [sv' nm, .gsl (l.map Vr.c) 3, .gsl q.2.2.1 4, iv pl], .tip 6 l.length, .tip 3 q.2.1.length])) (fun q => q.2.2.2.m) (r1.m + 1, [], [], r1) ⟨Nat.le_refl _, rfl, hok, by dsimp only; omega, by dsimp only; simp, rfl⟩ (Le.same ⟨rfl, rfl, trivial⟩) (fun q hq => ?_)
      obtain ⟨f2, ms, rows, r2⟩ := q
      obtain ⟨hle2, hrw, hok2, hfu2, hln2, he2⟩ := hq
      dsimp only at hle2 hrw hok2 hfu2 hln2 he2
      subst hrw
      cases f2 with
      | zero => omega
      | succ f2' =>
        rw [methsF] at he2
        refine SWp.go pok (by kernel_rfl) ?_
        refine PFun.call (is_c r2 wMethod hok2) ?_
        by_cases hi2 : r2.is wMethod = true
        · rw [if_pos hi2] at he2
          refine brP_true hi2 ?_
          obtain ⟨t1, t2⟩ := hok2.roomTake hi2 ms.length 16
          have hroom := room_c r2 (ms.map Mt.c).length 16 hok2
          rw [List.length_map] at hroom
          refine PFun.call (by rw [List.length_map]; exact hroom) ?_
          refine PFun.call (take_c _ hok2.room.ok) ?_
          have hv := t1.ok.meth
          refine ⟨_, _, meth_c _ t1.ok, ?_⟩
          generalize (r2.room ms.length 16).take.meth = q2 at he2 hv ⊢
          obtain ⟨x, r3⟩ := q2
          dsimp only at he2 hv ⊢
          have hvm := hv.m
          refine ⟨⟨by simp, RL_mt ms, fun r hr => by simp at hr; subst hr; rfl, by simp; omega⟩, ?_⟩
          refine ⟨(f2', ms ++ [x], (ms ++ [x]).map Mt.c, r3), ⟨by omega, rfl, hv.ok, by dsimp only; omega, by dsimp only; rw [List.length_append, List.length_singleton]; omega, he2⟩, by dsimp only; omega, .inr ⟨[0, 1, 2, 3, 4], ⟨rfl, rfl⟩, ?_, rfl, rfl, trivial⟩⟩
          simp only [List.map_append, List.map_cons, List.map_nil, List.length_append, List.length_map]
          rfl
        · rw [if_neg hi2] at he2
          refine brP_false (by simpa using hi2) ?_
          rw [← he2]
          refine PFun.call (must_c _ [125] hok2) ?_
          exact ⟨rfl, rfl⟩
/-- A monitor. -/
def Rd.mon (r : Rd) : Mo × Rd := if r.name.2.is [123] = true then (⟨r.name.1.1, r.name.2.enter.monB.1.1, r.name.2.enter.monB.1.2, r.name.1.2⟩, r.name.2.enter.monB.2.leave) else (⟨r.name.1.1, [], [], r.name.1.2⟩, r.name.2.fail 40)
theorem Rd.ok.mon {r : Rd} (h : r.ok) : r.to r.mon.2 := by
  unfold Rd.mon
  split
  · rename_i hi
    obtain ⟨g1, g2⟩ := ent h.name.ok hi
    exact h.name.trans (g2 _ g1.monB).1
  · exact h.name.trans (h.name.ok.fail (by decide))
theorem mon_c (r : Rd) (h : r.ok) : PFun Tryz.prog 66 [.ptr 0 0] [r.b] r.mon.1.v [r.mon.2.b] := by
  have h0 := h.name
  unfold Rd.mon
  refine fn_sem pok 20 1 Tryz.func66 (by kernel_rfl) rfl rfl rfl rfl ?_
  refine SWp.go pok (by kernel_rfl) ?_
  refine PFun.call (name_c r h) ?_
  generalize r.name = q at h0 ⊢
  obtain ⟨⟨nm, np⟩, r1⟩ := q
  dsimp only at h0 ⊢
  refine PFun.call (is_c r1 [123] h0.ok) ?_
  by_cases hi : r1.is [123] = true
  · rw [if_pos hi]
    refine brP_false (by rw [hi]; rfl) ?_
    obtain ⟨d1, d2⟩ := Rd.is_not5 hi
    obtain ⟨g1, g2, g3⟩ := h0.ok.enter d1 d2
    have hm := g1.monB
    refine PFun.call (withinMon nm np _ _ _ _ r1 r1.enter.monB.2 h0.ok d1 (hm.opn.trans g3) (mon1_c nm np r1.enter g1)) ?_
    exact ⟨rfl, rfl⟩
  · rw [if_neg hi]
    refine brP_true (by simpa using hi) ?_
    refine PFun.call (fail_c r1 40 h0.ok) ?_
    exact ⟨rfl, rfl⟩
/-- Monitors and roles. -/
def progF : Nat → List Mo → List Ro → Rd → (List Mo × List Ro) × Rd
  | 0, l, k, r => ((l, k), r)
  | f + 1, l, k, r => if r.code = 0 ∧ ¬ r.next.kind = 5 then
      (if r.is wMonitor = true then progF f (l ++ [(r.room l.length 8).take.mon.1]) k (r.room l.length 8).take.mon.2
       else if r.is wThread = true then progF f l (k ++ [(r.room k.length 8).take.role.1]) (r.room k.length 8).take.role.2
       else progF f l k (r.fail 40))
    else ((l, k), r)
def Rd.prog (r : Rd) : (List Mo × List Ro) × Rd := progF (r.m + 1) [] [] r
theorem prog_to (f : Nat) : ∀ (l : List Mo) (k : List Ro) (r : Rd), r.ok → r.to (progF f l k r).2 := by
  induction f with
  | zero => exact fun l k r h => h.to
  | succ f ih =>
    intro l k r h
    rw [progF]
    split
    · split
      · rename_i hi
        have h1 := (h.roomTake hi l.length 8).1
        have h2 := h1.trans h1.ok.mon
        exact h2.trans (ih _ _ _ h2.ok)
      split
      · rename_i hi
        have h1 := (h.roomTake hi k.length 8).1
        have h2 := h1.trans h1.ok.role
        exact h2.trans (ih _ _ _ h2.ok)
      · have h2 := h.fail (e := 40) (by decide)
        exact h2.trans (ih _ _ _ h2.ok)
    · exact h.to
end Go.Proofs.YtmflfcbebeikcaaGreatDoor.Q

namespace Go.Proofs.YtmflfcbebeikcaaGreatDoor.Q
open Go.RowKit
variable [Amb]

theorem Rd.next5 {r : Rd} : ¬ r.next.kind = 5 ↔ (r.next.kind != 5) = true := by simp
theorem prog_c (r : Rd) (h : r.ok) : PFun Tryz.prog 35 [.ptr 0 0] [r.b] (Pg.mk r.prog.1.1 r.prog.1.2).v [r.prog.2.b] := by
  have hl0 := h.len
  have hml := r.m_len
  refine fn_sem pok 52 1 Tryz.func35 (by kernel_rfl) rfl rfl rfl rfl ?_
  refine SWp.go pok (by kernel_rfl) ?_
  refine SWp.tipBox 1 0 4 rfl rfl ?_
  refine SWp.tipBox 1 1 5 rfl rfl ?_
  refine SWp.loop (fun q : Nat × (List Mo × List Ro) × (List (List D) × List (List D)) × Rd => q.1 ≤ r.m + 1 ∧ q.2.2.1.1 = q.2.1.1.map Mo.c ∧ q.2.2.1.2 = q.2.1.2.map Ro.c ∧ q.2.2.2.ok ∧ q.2.2.2.m < q.1 ∧ q.2.1.1.length + q.2.1.2.length + q.2.2.2.m ≤ r.m ∧ progF q.1 q.2.1.1 q.2.1.2 q.2.2.2 = r.prog)
    (fun q => ([(0, .ptr 0 0), (2, .ptr 1 0)], [q.2.2.2.b, .box [.gsl q.2.2.1.1 2, .gsl q.2.2.1.2 3], .tip 4 q.2.1.1.length, .tip 5 q.2.1.2.length])) (fun q => q.2.2.2.m) (r.m + 1, ([], []), ([], []), r) ⟨Nat.le_refl _, rfl, rfl, h, by dsimp only; omega, by dsimp only; simp, rfl⟩ (Le.same ⟨rfl, rfl, trivial⟩) (fun q hq => ?_)
  obtain ⟨f1, ⟨l, k⟩, ⟨rows, rows2⟩, r1⟩ := q
  obtain ⟨hle, hrw, hrw2, hok, hfu, hln, he⟩ := hq
  dsimp only at hle hrw hrw2 hok hfu hln he
  subst hrw
  subst hrw2
  cases f1 with
  | zero => omega
  | succ f' =>
    rw [progF] at he
    refine SWp.go pok (by kernel_rfl) ?_
    by_cases hc : r1.code = 0 ∧ ¬ r1.next.kind = 5
    · rw [if_pos hc] at he
      refine brP_true (by simpa using hc.1) ?_
      refine PFun.call (next_c r1 hok) ?_
      refine brP_true (by simpa using hc.2) ?_
      refine PFun.call (is_c r1 wMonitor hok) ?_
      by_cases hi : r1.is wMonitor = true
      · rw [if_pos hi] at he
        refine brP_true hi ?_
        obtain ⟨t1, t2⟩ := hok.roomTake hi l.length 8
        have hroom := room_c r1 (l.map Mo.c).length 8 hok
        rw [List.length_map] at hroom
        refine PFun.call (by rw [List.length_map]; exact hroom) ?_
        refine PFun.call (take_c _ hok.room.ok) ?_
        have hv := t1.ok.mon
        refine ⟨_, _, mon_c _ t1.ok, ?_⟩
        generalize (r1.room l.length 8).take.mon = q2 at he hv ⊢
        obtain ⟨x, r2⟩ := q2
        dsimp only at he hv ⊢
        have hvm := hv.m
        refine ⟨⟨by simp, RL_mo l, fun r hr => by simp at hr; subst hr; rfl, by simp; omega⟩, ?_⟩
        refine ⟨(f', (l ++ [x], k), ((l ++ [x]).map Mo.c, k.map Ro.c), r2), ⟨by omega, rfl, rfl, hv.ok, by dsimp only; omega, by dsimp only; rw [List.length_append, List.length_singleton]; omega, he⟩, by dsimp only; omega, .inr ⟨[0, 1, 2, 3], ⟨rfl, rfl⟩, ?_, rfl, rfl, trivial⟩⟩
        simp only [List.map_append, List.map_cons, List.map_nil, List.length_append, List.length_map]
        rfl
      rw [if_neg hi] at he
      refine brP_false (by simpa using hi) ?_
      refine PFun.call (is_c r1 wThread hok) ?_
      by_cases hi : r1.is wThread = true
      · rw [if_pos hi] at he
        refine brP_true hi ?_
        obtain ⟨t1, t2⟩ := hok.roomTake hi k.length 8
        have hroom := room_c r1 (k.map Ro.c).length 8 hok
        rw [List.length_map] at hroom
        refine PFun.call (by rw [List.length_map]; exact hroom) ?_
        refine PFun.call (take_c _ hok.room.ok) ?_
        have hv := t1.ok.role
        refine ⟨_, _, role_c _ t1.ok, ?_⟩
        generalize (r1.room k.length 8).take.role = q2 at he hv ⊢
        obtain ⟨x, r2⟩ := q2
        dsimp only at he hv ⊢
        have hvm := hv.m
        refine ⟨⟨by simp, RL_ro k, fun r hr => by simp at hr; subst hr; rfl, by simp; omega⟩, ?_⟩
        refine ⟨(f', (l, k ++ [x]), (l.map Mo.c, (k ++ [x]).map Ro.c), r2), ⟨by omega, rfl, rfl, hv.ok, by dsimp only; omega, by dsimp only; rw [List.length_append, List.length_singleton]; omega, he⟩, by dsimp only; omega, .inr ⟨[0, 1, 2, 3], ⟨rfl, rfl⟩, ?_, rfl, rfl, trivial⟩⟩
        simp only [List.map_append, List.map_cons, List.map_nil, List.length_append, List.length_map]
        rfl
      rw [if_neg hi] at he
      refine brP_false (by simpa using hi) ?_
      refine PFun.call (fail_c r1 40 hok) ?_
      have hlt := Rd.fail_m hc.1 hok (e := 40) (by decide)
      exact ⟨(f', (l, k), (l.map Mo.c, k.map Ro.c), r1.fail 40), ⟨by omega, rfl, rfl, (hok.fail (by decide)).ok, by dsimp only; omega, by dsimp only; omega, he⟩, hlt, .inr ⟨[0, 1, 2, 3], ⟨rfl, rfl⟩, by simp only [List.length_map]; rfl, rfl, rfl, trivial⟩⟩
    · rw [if_neg hc] at he
      rw [← he]
      by_cases hc0 : r1.code = 0
      · have h1 : r1.next.kind = 5 := Classical.byContradiction fun e => hc ⟨hc0, e⟩
        refine brP_true (by simpa using hc0) ?_
        refine PFun.call (next_c r1 hok) ?_
        refine brP_false (by simpa using h1) ?_
        exact ⟨rfl, rfl⟩
      · refine brP_false (by simpa using hc0) ?_
        exact ⟨rfl, rfl⟩
theorem scanF_ok (s : Str) (hs : s.length ≤ 20000) : ∀ (f a : Nat) (l : List Tk), a ≤ s.length → l.length ≤ a → s.length - a < f → (scanF s f a l).2.1 = 0 → (∃ k t, (scanF s f a l).1 = k ++ [t] ∧ t.kind = 5) ∧ (scanF s f a l).1.length < 1073741824
  | 0, a, l, _, _, h, _ => by omega
  | f + 1, a, l, ha, hl, hf, h => by
    rw [scanF] at h ⊢
    by_cases hlt : a < s.length
    · rw [if_pos hlt] at h ⊢
      by_cases h0 : (nextS s a l).1 = 0
      · rw [if_pos h0] at h ⊢
        obtain ⟨g1, g2, g3⟩ := next_ok hlt h0
        exact scanF_ok s hs f _ _ g2 (by omega) (by omega) h
      · rw [if_neg h0] at h; exact absurd h h0
    · rw [if_neg hlt]
      exact ⟨⟨l, _, rfl, rfl⟩, by simp; omega⟩
theorem scanS_ok {s : Str} (h : (scanS s).2.1 = 0) : Rd.ok ⟨0, 0, (scanS s).1, 0⟩ := by
  unfold scanS at h ⊢
  by_cases hs : s.length > 20000
  · rw [if_pos hs] at h; exact absurd h (by decide)
  · rw [if_neg hs] at h ⊢
    obtain ⟨h1, h2⟩ := scanF_ok s (by omega) (s.length + 1) 0 [] (Nat.zero_le _) (Nat.le_refl _) (by omega) h
    exact ⟨h1, h2, Int.le_refl _, by show (0 : Int) ≤ 65; decide, fun _ => by show (0 : Int) ≤ 64; decide⟩
/-- A text as a program: the tree, or an error, and where. -/
def parseS (s : Str) : Pg × Int × Int :=
  if (scanS s).2.1 = 0 then (if (Rd.mk 0 0 (scanS s).1 0).prog.2.code = 0 then (⟨(Rd.mk 0 0 (scanS s).1 0).prog.1.1, (Rd.mk 0 0 (scanS s).1 0).prog.1.2⟩, 0, 0) else (⟨[], []⟩, (Rd.mk 0 0 (scanS s).1 0).prog.2.code, (Rd.mk 0 0 (scanS s).1 0).prog.2.at_))
  else (⟨[], []⟩, (scanS s).2.1, (scanS s).2.2)
theorem parse_c (s : Str) (hs : s.length < 1073741824) : PFun Tryz.prog 14 [sv' s] [] (.tup [(parseS s).1.v, iv (parseS s).2.1, iv (parseS s).2.2]) [] := by
  refine fn_sem pok 44 0 Tryz.func14 (by kernel_rfl) rfl rfl rfl rfl ?_
  refine SWp.go pok (by kernel_rfl) ?_
  have hok := scanS_ok (s := s)
  refine PFun.call (scan_c s hs) ?_
  unfold parseS
  generalize scanS s = q at hok ⊢
  obtain ⟨l, e, a⟩ := q
  dsimp only at hok ⊢
  refine brP_split (fun h => ?_) (fun h => ?_)
  · rw [if_neg (by simpa using h)]
    exact fin1 rfl
  · have h : e = 0 := by simpa using h
    rw [if_pos h]
    have hok := hok h
    refine PFun.call (prog_c _ hok) ?_
    generalize (Rd.mk 0 0 l 0).prog = q2
    obtain ⟨⟨ms, rs⟩, r2⟩ := q2
    dsimp only
    refine brP_split (fun h2 => ?_) (fun h2 => ?_)
    · rw [if_neg (by simpa using h2)]
      exact fin1 rfl
    · rw [if_pos (by simpa using h2)]
      exact fin1 rfl
/-- A text as an expression: the tree, or an error, and where. -/
def exprS (s : Str) : Ex × Int × Int :=
  if (scanS s).2.1 = 0 then (if ((Rd.mk 0 0 (scanS s).1 0).expr.2.of 5).2.code = 0 then ((Rd.mk 0 0 (scanS s).1 0).expr.1, 0, 0) else (ex0, ((Rd.mk 0 0 (scanS s).1 0).expr.2.of 5).2.code, ((Rd.mk 0 0 (scanS s).1 0).expr.2.of 5).2.at_))
  else (ex0, (scanS s).2.1, (scanS s).2.2)
theorem exprTop_c (s : Str) (hs : s.length < 1073741824) : PFun Tryz.prog 33 [sv' s] [] (.tup [(exprS s).1.v, iv (exprS s).2.1, iv (exprS s).2.2]) [] := by
  refine fn_sem pok 46 0 Tryz.func33 (by kernel_rfl) rfl rfl rfl rfl ?_
  refine SWp.go pok (by kernel_rfl) ?_
  have hok := scanS_ok (s := s)
  refine PFun.call (scan_c s hs) ?_
  unfold exprS
  generalize scanS s = q at hok ⊢
  obtain ⟨l, e, a⟩ := q
  dsimp only at hok ⊢
  refine brP_split (fun h => ?_) (fun h => ?_)
  · rw [if_neg (by simpa using h)]
    exact fin1 rfl
  · have h : e = 0 := by simpa using h
    rw [if_pos h]
    have hok := hok h
    have he := hok.expr
    refine PFun.call (expr_c _ hok) ?_
    generalize (Rd.mk 0 0 l 0).expr = q2 at he ⊢
    obtain ⟨x, r2⟩ := q2
    dsimp only at he ⊢
    refine PFun.call (of_c r2 5 he.ok) ?_
    refine brP_split (fun h2 => ?_) (fun h2 => ?_)
    · rw [if_neg (by simpa using h2)]
      exact fin1 rfl
    · rw [if_pos (by simpa using h2)]
      exact fin1 rfl
end Go.Proofs.YtmflfcbebeikcaaGreatDoor.Q
