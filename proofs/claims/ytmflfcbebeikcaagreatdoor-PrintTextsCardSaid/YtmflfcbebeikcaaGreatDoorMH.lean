/- Whether a program has its shape. No condition. -/
import Derived.Test.YtmflfcbebeikcaaGreatDoorME
import Derived.Test.YtmflfcbebeikcaaGreatDoorMC
set_option linter.unusedVariables false
set_option linter.unusedSectionVars false
set_option linter.unnecessarySimpa false
set_option linter.unusedSimpArgs false
set_option maxRecDepth 100000
set_option maxHeartbeats 4000000
namespace Go.Proofs.YtmflfcbebeikcaaGreatDoor.Q
open Go.RowKit
variable [Amb]
/-- What a kind of statements has: a monitor's name, a name, a number, an expression; how many blocks. -/
structure Fo where
  mon : Bool
  name : Bool
  num : Bool
  ex : Bool
  fewest : Int
  most : Int
def Fo.v (f : Fo) : V := .agg [.d (.bool f.mon), .d (.bool f.name), .d (.bool f.num), .d (.bool f.ex), iv f.fewest, iv f.most]
def fo0 : Fo := ⟨false, false, false, false, 0, 0⟩
def formL : List Fo := [fo0, fo0, ⟨true, true, false, true, 0, 0⟩, ⟨false, false, false, true, 1, 2⟩, ⟨false, false, false, true, 1, 1⟩, ⟨false, false, false, false, 1, 1⟩, ⟨false, false, false, false, 1, 8⟩, ⟨true, false, false, false, 1, 1⟩, ⟨true, true, false, false, 0, 0⟩, ⟨true, false, true, false, 0, 0⟩, ⟨true, false, false, false, 0, 0⟩, ⟨true, false, false, false, 0, 0⟩]
def isKind (k : Int) : Bool := decide (1 ≤ k) && decide (k ≤ 11)
def formS (k : Int) : Fo := if 1 ≤ k ∧ k ≤ 11 then formL.getD k.toNat fo0 else fo0
theorem formOf_c (k : Int) : PFun Tryz.prog 146 [iv k] [] (.tup [(formS k).v, .d (.bool (isKind k))]) [] := by
  refine fn_sem pok 35 0 Tryz.func146 (by kernel_rfl) rfl rfl rfl rfl ?_
  by_cases h0 : k < 1
  · have e1 : formS k = fo0 := by unfold formS; rw [if_neg (by omega)]
    have e2 : isKind k = false := by unfold isKind; simp; omega
    rw [e1, e2]
    refine SWp.go pok (by kernel_rfl) ?_
    refine brP_true (decide_eq_true h0) ?_
    exact ⟨rfl, rfl⟩
  by_cases h1 : 12 ≤ k
  · have e1 : formS k = fo0 := by unfold formS; rw [if_neg (by omega)]
    have e2 : isKind k = false := by unfold isKind; simp; omega
    rw [e1, e2]
    refine SWp.go pok (by kernel_rfl) ?_
    refine brP_false (decide_eq_false h0) ?_
    refine brP_true (decide_eq_true h1) ?_
    exact ⟨rfl, rfl⟩
  have : k = 1 ∨ k = 2 ∨ k = 3 ∨ k = 4 ∨ k = 5 ∨ k = 6 ∨ k = 7 ∨ k = 8 ∨ k = 9 ∨ k = 10 ∨ k = 11 := by omega
  rcases this with rfl | rfl | rfl | rfl | rfl | rfl | rfl | rfl | rfl | rfl | rfl
  all_goals
    refine SWp.go pok (by kernel_rfl) ?_
    exact ⟨by decide, ⟨rfl, rfl⟩⟩
def isNameW (s : Str) (wanted : Bool) : Bool := if wanted then isName s else s == []
theorem isNameW_c (s : Str) (w : Bool) (hs : s.length < 1073741824) : PFun Tryz.prog 147 [sv' s, .d (.bool w)] [] (.d (.bool (isNameW s w))) [] := by
  refine fn_sem pok 11 0 Tryz.func147 (by kernel_rfl) rfl rfl rfl rfl ?_
  refine SWp.go pok (by kernel_rfl) ?_
  cases w with
  | true =>
    refine PFun.call (lexName_c s hs) ?_
    exact fin1 rfl
  | false =>
    refine brP_split (fun h => ?_) (fun h => ?_)
    · exact fin1 (dbool h.symm)
    · exact fin1 (dbool h.symm)
def isNoneS (e : Ex) : Bool := (e.op == 0) && (e.mon == []) && (e.name == []) && (e.n == 0) && ((e.kids.length : Int) == 0)
theorem isNone_c (e : Ex) : PFun Tryz.prog 148 [e.v] [] (.d (.bool (isNoneS e))) [] := by
  refine fn_sem pok 27 0 Tryz.func148 (by kernel_rfl) rfl rfl rfl rfl ?_
  refine SWp.go pok (by kernel_rfl) ?_
  repeat' refine brP_split (fun h => ?_) (fun h => ?_)
  all_goals
    refine fin1 (dbool ?_)
    unfold isNoneS
    simp_all
end Go.Proofs.YtmflfcbebeikcaaGreatDoor.Q

namespace Go.Proofs.YtmflfcbebeikcaaGreatDoor.Q
open Go.RowKit
variable [Amb]
def idxF {α : Type} (p : α → Bool) : Nat → List α → Int
  | _, [] => -1
  | k, a :: r => if p a = true then k else idxF p (k + 1) r
theorem idxF_at {α : Type} (p : α → Bool) {l : List α} {k : Nat} (h : k < l.length) : idxF p k (l.drop k) = if p l[k] = true then (k : Int) else idxF p (k + 1) (l.drop (k + 1)) := by
  rw [List.drop_eq_getElem_cons h]; rfl
theorem idxF_any {α : Type} (p : α → Bool) : ∀ (l : List α) (k : Nat), decide (idxF p k l ≥ 0) = l.any p
  | [], k => by rw [idxF]; rfl
  | a :: r, k => by
    rw [idxF, List.any_cons]
    by_cases h : p a = true
    · rw [if_pos h, h]; simp
    · rw [if_neg h, idxF_any p r (k + 1)]
      rw [Bool.not_eq_true] at h
      rw [h]; rfl

theorem St.inRow {l : List (St)} {k : Nat} {K : List D → Prop} (h : k < l.length) (c : K [.int .i64 l[k].kind, .str l[k].mon, .str l[k].name, .int .i64 l[k].n, .int .i64 l[k].e.op, .str l[k].e.mon, .str l[k].e.name, .int .i64 l[k].e.n, .sl (l[k].e.kids.map Ex.e), .int .i64 l[k].e.pl, .sl (l[k].blocks.map blk), .int .i64 l[k].pl]) : PIdx (l.map St.c) (k : Int) K := PIdx.map (get_at h) (by
  have e : St.c l[k] = [.int .i64 l[k].kind, .str l[k].mon, .str l[k].name, .int .i64 l[k].n, .int .i64 l[k].e.op, .str l[k].e.mon, .str l[k].e.name, .int .i64 l[k].e.n, .sl (l[k].e.kids.map Ex.e), .int .i64 l[k].e.pl, .sl (l[k].blocks.map blk), .int .i64 l[k].pl] := by rw [St.c_eq, Ex.e_row]; rfl
  rw [e]; exact c)
theorem idxOfSt_c (g : FuncId) (p : St → Bool) (l : List St) (h : ∀ a ∈ l, PFun Tryz.prog g [a.v] [] (.d (.bool (p a))) []) (hl : l.length < 1073741824) :
    PFun Tryz.prog 145 [.d (.sl (l.map St.c)), .fn (.func g) [] []] [] (iv (idxF p 0 l)) [] := by
  refine fn_sem pok 19 0 Tryz.func145 (by kernel_rfl) rfl rfl rfl rfl ?_
  refine SWp.go pok (by kernel_rfl) ?_
  refine SWp.loop (fun k : Nat => k ≤ l.length ∧ idxF p k (l.drop k) = idxF p 0 l) (fun k => ([(0, .d (.sl (l.map St.c))), (1, .fn (.func g) [] []), (7, iv (l.map St.c).length), (8, iv k)], [])) (fun k => l.length - k) 0 ⟨Nat.zero_le _, rfl⟩ (Le.same ⟨rfl, rfl, rfl, rfl, trivial⟩) (fun k hk => ?_)
  obtain ⟨hj, hk⟩ := hk
  refine SWp.go pok (by kernel_rfl) ?_
  refine brP_split (fun h2 => ?_) (fun h2 => ?_)
  · have hlt : k < l.length := by simpa using h2
    have hat := idxF_at p hlt
    refine St.inRow hlt ?_
    refine PFun.call (h l[k] (List.getElem_mem hlt)) ?_
    refine brP_split (fun h3 => ?_) (fun h3 => ?_)
    · exact fin1 (dint (by rw [← hk, hat, if_pos h3]))
    · exact ⟨k + 1, ⟨hlt, by rw [← hk, hat, if_neg (by rw [h3]; simp)]⟩, by omega, Le.same ⟨rfl, rfl, rfl, sint (wrap_nat k (by omega)), trivial⟩⟩
  · have hk' : k = l.length := by simp at h2; omega
    exact fin1 (dint (by rw [← hk, List.drop_of_length_le (by omega)]; rfl))
theorem anySt_c (g : FuncId) (p : St → Bool) (l : List St) (h : ∀ a ∈ l, PFun Tryz.prog g [a.v] [] (.d (.bool (p a))) []) (hl : l.length < 1073741824) :
    PFun Tryz.prog 117 [.d (.sl (l.map St.c)), .fn (.func g) [] []] [] (.d (.bool (l.any p))) [] := by
  refine fn_sem pok 9 0 Tryz.func117 (by kernel_rfl) rfl rfl rfl rfl ?_
  refine SWp.go pok (by kernel_rfl) ?_
  refine PFun.call (idxOfSt_c g p l h hl) ?_
  rw [← idxF_any p l 0]
  refine brP_split (fun h3 => ?_) (fun h3 => ?_)
  · exact fin1 (dbool h3.symm)
  · exact fin1 (dbool h3.symm)
theorem Vr.inRow {l : List (Vr)} {k : Nat} {K : List D → Prop} (h : k < l.length) (c : K [.str l[k].name, .int .i64 l[k].type, .int .i64 l[k].lo, .int .i64 l[k].hi, .int .i64 l[k].init, .int .i64 l[k].pl]) : PIdx (l.map Vr.c) (k : Int) K := PIdx.map (get_at h) (by
  have e : Vr.c l[k] = [.str l[k].name, .int .i64 l[k].type, .int .i64 l[k].lo, .int .i64 l[k].hi, .int .i64 l[k].init, .int .i64 l[k].pl] := rfl
  rw [e]; exact c)
theorem idxOfVr_c (g : FuncId) (p : Vr → Bool) (l : List Vr) (h : ∀ a ∈ l, PFun Tryz.prog g [a.v] [] (.d (.bool (p a))) []) (hl : l.length < 1073741824) :
    PFun Tryz.prog 120 [.d (.sl (l.map Vr.c)), .fn (.func g) [] []] [] (iv (idxF p 0 l)) [] := by
  refine fn_sem pok 19 0 Tryz.func120 (by kernel_rfl) rfl rfl rfl rfl ?_
  refine SWp.go pok (by kernel_rfl) ?_
  refine SWp.loop (fun k : Nat => k ≤ l.length ∧ idxF p k (l.drop k) = idxF p 0 l) (fun k => ([(0, .d (.sl (l.map Vr.c))), (1, .fn (.func g) [] []), (7, iv (l.map Vr.c).length), (8, iv k)], [])) (fun k => l.length - k) 0 ⟨Nat.zero_le _, rfl⟩ (Le.same ⟨rfl, rfl, rfl, rfl, trivial⟩) (fun k hk => ?_)
  obtain ⟨hj, hk⟩ := hk
  refine SWp.go pok (by kernel_rfl) ?_
  refine brP_split (fun h2 => ?_) (fun h2 => ?_)
  · have hlt : k < l.length := by simpa using h2
    have hat := idxF_at p hlt
    refine Vr.inRow hlt ?_
    refine PFun.call (h l[k] (List.getElem_mem hlt)) ?_
    refine brP_split (fun h3 => ?_) (fun h3 => ?_)
    · exact fin1 (dint (by rw [← hk, hat, if_pos h3]))
    · exact ⟨k + 1, ⟨hlt, by rw [← hk, hat, if_neg (by rw [h3]; simp)]⟩, by omega, Le.same ⟨rfl, rfl, rfl, sint (wrap_nat k (by omega)), trivial⟩⟩
  · have hk' : k = l.length := by simp at h2; omega
    exact fin1 (dint (by rw [← hk, List.drop_of_length_le (by omega)]; rfl))
theorem anyVr_c (g : FuncId) (p : Vr → Bool) (l : List Vr) (h : ∀ a ∈ l, PFun Tryz.prog g [a.v] [] (.d (.bool (p a))) []) (hl : l.length < 1073741824) :
    PFun Tryz.prog 77 [.d (.sl (l.map Vr.c)), .fn (.func g) [] []] [] (.d (.bool (l.any p))) [] := by
  refine fn_sem pok 9 0 Tryz.func77 (by kernel_rfl) rfl rfl rfl rfl ?_
  refine SWp.go pok (by kernel_rfl) ?_
  refine PFun.call (idxOfVr_c g p l h hl) ?_
  rw [← idxF_any p l 0]
  refine brP_split (fun h3 => ?_) (fun h3 => ?_)
  · exact fin1 (dbool h3.symm)
  · exact fin1 (dbool h3.symm)
theorem Mt.inRow {l : List (Mt)} {k : Nat} {K : List D → Prop} (h : k < l.length) (c : K [.str l[k].name, .sl (l[k].body.map St.c), .int .i64 l[k].pl]) : PIdx (l.map Mt.c) (k : Int) K := PIdx.map (get_at h) (by
  have e : Mt.c l[k] = [.str l[k].name, .sl (l[k].body.map St.c), .int .i64 l[k].pl] := rfl
  rw [e]; exact c)
theorem idxOfMt_c (g : FuncId) (p : Mt → Bool) (l : List Mt) (h : ∀ a ∈ l, PFun Tryz.prog g [a.v] [] (.d (.bool (p a))) []) (hl : l.length < 1073741824) :
    PFun Tryz.prog 121 [.d (.sl (l.map Mt.c)), .fn (.func g) [] []] [] (iv (idxF p 0 l)) [] := by
  refine fn_sem pok 19 0 Tryz.func121 (by kernel_rfl) rfl rfl rfl rfl ?_
  refine SWp.go pok (by kernel_rfl) ?_
  refine SWp.loop (fun k : Nat => k ≤ l.length ∧ idxF p k (l.drop k) = idxF p 0 l) (fun k => ([(0, .d (.sl (l.map Mt.c))), (1, .fn (.func g) [] []), (7, iv (l.map Mt.c).length), (8, iv k)], [])) (fun k => l.length - k) 0 ⟨Nat.zero_le _, rfl⟩ (Le.same ⟨rfl, rfl, rfl, rfl, trivial⟩) (fun k hk => ?_)
  obtain ⟨hj, hk⟩ := hk
  refine SWp.go pok (by kernel_rfl) ?_
  refine brP_split (fun h2 => ?_) (fun h2 => ?_)
  · have hlt : k < l.length := by simpa using h2
    have hat := idxF_at p hlt
    refine Mt.inRow hlt ?_
    refine PFun.call (h l[k] (List.getElem_mem hlt)) ?_
    refine brP_split (fun h3 => ?_) (fun h3 => ?_)
    · exact fin1 (dint (by rw [← hk, hat, if_pos h3]))
    · exact ⟨k + 1, ⟨hlt, by rw [← hk, hat, if_neg (by rw [h3]; simp)]⟩, by omega, Le.same ⟨rfl, rfl, rfl, sint (wrap_nat k (by omega)), trivial⟩⟩
  · have hk' : k = l.length := by simp at h2; omega
    exact fin1 (dint (by rw [← hk, List.drop_of_length_le (by omega)]; rfl))
theorem anyMt_c (g : FuncId) (p : Mt → Bool) (l : List Mt) (h : ∀ a ∈ l, PFun Tryz.prog g [a.v] [] (.d (.bool (p a))) []) (hl : l.length < 1073741824) :
    PFun Tryz.prog 80 [.d (.sl (l.map Mt.c)), .fn (.func g) [] []] [] (.d (.bool (l.any p))) [] := by
  refine fn_sem pok 9 0 Tryz.func80 (by kernel_rfl) rfl rfl rfl rfl ?_
  refine SWp.go pok (by kernel_rfl) ?_
  refine PFun.call (idxOfMt_c g p l h hl) ?_
  rw [← idxF_any p l 0]
  refine brP_split (fun h3 => ?_) (fun h3 => ?_)
  · exact fin1 (dbool h3.symm)
  · exact fin1 (dbool h3.symm)
theorem Mo.inRow {l : List (Mo)} {k : Nat} {K : List D → Prop} (h : k < l.length) (c : K [.str l[k].name, .sl (l[k].vars.map Vr.c), .sl (l[k].methods.map Mt.c), .int .i64 l[k].pl]) : PIdx (l.map Mo.c) (k : Int) K := PIdx.map (get_at h) (by
  have e : Mo.c l[k] = [.str l[k].name, .sl (l[k].vars.map Vr.c), .sl (l[k].methods.map Mt.c), .int .i64 l[k].pl] := rfl
  rw [e]; exact c)
theorem Ro.inRow {l : List (Ro)} {k : Nat} {K : List D → Prop} (h : k < l.length) (c : K [.str l[k].name, .bool l[k].star, .int .i64 l[k].count, .sl (l[k].body.map St.c), .int .i64 l[k].pl]) : PIdx (l.map Ro.c) (k : Int) K := PIdx.map (get_at h) (by
  have e : Ro.c l[k] = [.str l[k].name, .bool l[k].star, .int .i64 l[k].count, .sl (l[k].body.map St.c), .int .i64 l[k].pl] := rfl
  rw [e]; exact c)
theorem Bl.inRow {l : List (List St)} {k : Nat} {K : List D → Prop} (h : k < l.length) (c : K [.sl (l[k].map St.c)]) : PIdx (l.map blk) (k : Int) K := PIdx.map (get_at h) (by
  have e : blk l[k] = [.sl (l[k].map St.c)] := rfl
  rw [e]; exact c)

end Go.Proofs.YtmflfcbebeikcaaGreatDoor.Q

namespace Go.Proofs.YtmflfcbebeikcaaGreatDoor.Q
open Go.RowKit
variable [Amb]
def headOk (kind : Int) (mon name : Str) (n : Int) (e : Ex) (len : Nat) : Bool :=
  if isKind kind = false then false else if (len : Int) < (formS kind).fewest then false else if (len : Int) > (formS kind).most then false else
  if isNameW mon (formS kind).mon = false then false else if isNameW name (formS kind).name = false then false else if n < 0 then false else
  if (formS kind).num = false ∧ n ≠ 0 then false else if (formS kind).ex = true then (checkS e == 0) else isNoneS e
mutual
def St.ok : St → Bool
  | ⟨kind, mon, name, n, e, blocks, _⟩ => headOk kind mon name n e blocks.length && St.okB blocks
def St.okL : List St → Bool
  | [] => true
  | a :: r => a.ok && St.okL r
def St.okB : List (List St) → Bool
  | [] => true
  | b :: r => St.okL b && St.okB r
end
theorem St.okL_all : ∀ l : List St, St.okL l = l.all St.ok
  | [] => by rw [St.okL]; rfl
  | a :: r => by rw [St.okL, St.okL_all r]; rfl
theorem St.okB_all : ∀ l : List (List St), St.okB l = l.all St.okL
  | [] => by rw [St.okB]; rfl
  | a :: r => by rw [St.okB, St.okB_all r]; rfl
/-- What a statement holds is not too much for a machine. -/
inductive SF : St → Prop
  | mk {kind : Int} {mon name : Str} {n : Int} {e : Ex} {blocks : List (List St)} {pl : Int} (hm : mon.length < 1073741824) (hn : name.length < 1073741824) (he : e.fits) (hb : blocks.length < 1073741824) (hl : ∀ b ∈ blocks, b.length < 1073741824) (k : ∀ b ∈ blocks, ∀ y ∈ b, SF y) : SF ⟨kind, mon, name, n, e, blocks, pl⟩
theorem not_any {α : Type} (p : α → Bool) : ∀ l : List α, (!(l.any fun a => !p a)) = l.all p
  | [] => rfl
  | a :: r => by rw [List.any_cons, List.all_cons, ← not_any p r]; simp
theorem areStmts_of (l : List St) (hl : l.length < 1073741824) (h : ∀ y ∈ l, PFun Tryz.prog 119 [y.v] [] (.d (.bool y.ok)) []) : PFun Tryz.prog 76 [.d (.sl (l.map St.c))] [] (.d (.bool (St.okL l))) [] := by
  have hg : ∀ y ∈ l, PFun Tryz.prog 118 [y.v] [] (.d (.bool (!y.ok))) [] := fun y hy => by
    refine fn_sem pok 6 0 Tryz.func118 (by kernel_rfl) rfl rfl rfl rfl ?_
    refine SWp.go pok (by kernel_rfl) ?_
    refine PFun.call (h y hy) ?_
    refine brP_split (fun h3 => ?_) (fun h3 => ?_)
    · exact fin1 (dbool h3.symm)
    · exact fin1 (dbool h3.symm)
  rw [St.okL_all, ← not_any]
  refine fn_sem pok 6 0 Tryz.func76 (by kernel_rfl) rfl rfl rfl rfl ?_
  refine SWp.go pok (by kernel_rfl) ?_
  refine PFun.call (anySt_c _ (fun y => !y.ok) l hg hl) ?_
  refine brP_split (fun h3 => ?_) (fun h3 => ?_)
  · exact fin1 (dbool h3.symm)
  · exact fin1 (dbool h3.symm)
theorem isStmt_c {s : St} (hs : SF s) : PFun Tryz.prog 119 [s.v] [] (.d (.bool s.ok)) [] := by
  induction hs with
  | @mk kind mon name n e blocks pl hm hn he hb hl k ih =>
    rw [St.ok]
    refine fn_sem pok 95 0 Tryz.func119 (by kernel_rfl) rfl rfl rfl rfl ?_
    refine SWp.go pok (by kernel_rfl) ?_
    have c0 := formOf_c kind
    unfold headOk
    generalize formS kind = f at c0 ⊢
    obtain ⟨f1, f2, f3, f4, f5, f6⟩ := f
    cases hK : isKind kind with
    | false =>
      rw [hK] at c0
      refine PFun.call c0 ?_
      exact fin1 rfl
    | true =>
      rw [hK] at c0
      refine PFun.call c0 ?_
      rw [if_neg (by simp)]
      dsimp only
      refine brP_split (fun h => ?_) (fun h => ?_)
      · rw [if_pos (by simpa using h)]
        exact fin1 rfl
      rw [if_neg (by simpa using h)]
      refine brP_split (fun h => ?_) (fun h => ?_)
      · rw [if_pos (by simpa using h)]
        exact fin1 rfl
      rw [if_neg (by simpa using h)]
      refine ⟨by decide, ?_⟩
      refine PFun.call (isNameW_c mon f1 hm) ?_
      cases h1 : isNameW mon f1 with
      | false =>
        rw [if_pos rfl]
        exact fin1 rfl
      | true =>
      rw [if_neg (by simp)]
      refine ⟨by decide, ?_⟩
      refine PFun.call (isNameW_c name f2 hn) ?_
      cases h2 : isNameW name f2 with
      | false =>
        rw [if_pos rfl]
        exact fin1 rfl
      | true =>
      rw [if_neg (by simp)]
      refine brP_split (fun h => ?_) (fun h => ?_)
      · rw [if_pos (by simpa using h)]
        exact fin1 rfl
      rw [if_neg (by simpa using h)]
      refine ⟨by decide, ?_⟩
      have hex : ∀ {g : Bool}, (if g = true then (checkS e == 0) else isNoneS e) = (bif g then (checkS e == 0) else isNoneS e) := fun {g} => by cases g <;> rfl
      rw [hex]
      have hdrop : ∀ {j : Nat} (h : j < blocks.length), St.okB (blocks.drop j) = (St.okL blocks[j] && St.okB (blocks.drop (j + 1))) := fun {j} h => by rw [List.drop_eq_getElem_cons h, St.okB]
      have hare : ∀ b ∈ blocks, PFun Tryz.prog 76 [.d (.sl (b.map St.c))] [] (.d (.bool (St.okL b))) [] := fun b hb' => areStmts_of b (hl b hb') (ih b hb')
      cases f3 with
      | true =>
        rw [if_neg (by simp)]
        refine ⟨by decide, ?_⟩
        cases f4 with
        | true =>
          refine PFun.call (checkExpr_c e he) ?_
          refine brP_split (fun h7 => ?_) (fun h7 => ?_)
          · have h7 : (checkS e == 0) = false := by simpa using h7
            exact fin1 (dbool (by rw [h7]; rfl))
          have h7 : (checkS e == 0) = true := by simpa using h7
          rw [h7]
          refine ⟨by decide, ?_⟩
          refine SWp.loop (fun k : Nat => k ≤ blocks.length ∧ St.okB (blocks.drop k) = St.okB blocks) (fun k => ([(85, .d (.sl (blocks.map blk))), (86, iv blocks.length), (87, iv k)], [])) (fun k => blocks.length - k) 0 ⟨Nat.zero_le _, rfl⟩ (.inr ⟨[], ⟨rfl, rfl⟩, rfl, rfl, sint (by rw [List.length_map]), rfl, trivial⟩) (fun j hj => ?_)
          obtain ⟨hj, hk⟩ := hj
          refine SWp.go pok (by kernel_rfl) ?_
          refine brP_split (fun h2 => ?_) (fun h2 => ?_)
          · have hlt : j < blocks.length := by simpa using h2
            refine Bl.inRow hlt ?_
            refine PFun.call (hare blocks[j] (List.getElem_mem hlt)) ?_
            refine brP_split (fun h3 => ?_) (fun h3 => ?_)
            · have h3 : St.okL blocks[j] = false := by simpa using h3
              exact fin1 (dbool (by rw [← hk, hdrop hlt, h3]; rfl))
            · have h3 : St.okL blocks[j] = true := by simpa using h3
              exact ⟨j + 1, ⟨hlt, by rw [← hk, hdrop hlt, h3]; rfl⟩, by omega, Le.same ⟨rfl, rfl, sint (wrap_nat j (by omega)), trivial⟩⟩
          · have hj' : j = blocks.length := by simp at h2; omega
            subst hj'
            exact fin1 (dbool (by rw [← hk, List.drop_of_length_le (Nat.le_refl _), St.okB]; rfl))
        | false =>
          refine ⟨by decide, ?_⟩
          refine PFun.call (isNone_c e) ?_
          refine brP_split (fun h7 => ?_) (fun h7 => ?_)
          · have h7 : isNoneS e = false := by simpa using h7
            exact fin1 (dbool (by rw [h7]; rfl))
          have h7 : isNoneS e = true := by simpa using h7
          rw [h7]
          refine SWp.loop (fun k : Nat => k ≤ blocks.length ∧ St.okB (blocks.drop k) = St.okB blocks) (fun k => ([(85, .d (.sl (blocks.map blk))), (86, iv blocks.length), (87, iv k)], [])) (fun k => blocks.length - k) 0 ⟨Nat.zero_le _, rfl⟩ (.inr ⟨[], ⟨rfl, rfl⟩, rfl, rfl, sint (by rw [List.length_map]), rfl, trivial⟩) (fun j hj => ?_)
          obtain ⟨hj, hk⟩ := hj
          refine SWp.go pok (by kernel_rfl) ?_
          refine brP_split (fun h2 => ?_) (fun h2 => ?_)
          · have hlt : j < blocks.length := by simpa using h2
            refine Bl.inRow hlt ?_
            refine PFun.call (hare blocks[j] (List.getElem_mem hlt)) ?_
            refine brP_split (fun h3 => ?_) (fun h3 => ?_)
            · have h3 : St.okL blocks[j] = false := by simpa using h3
              exact fin1 (dbool (by rw [← hk, hdrop hlt, h3]; rfl))
            · have h3 : St.okL blocks[j] = true := by simpa using h3
              exact ⟨j + 1, ⟨hlt, by rw [← hk, hdrop hlt, h3]; rfl⟩, by omega, Le.same ⟨rfl, rfl, sint (wrap_nat j (by omega)), trivial⟩⟩
          · have hj' : j = blocks.length := by simp at h2; omega
            subst hj'
            exact fin1 (dbool (by rw [← hk, List.drop_of_length_le (Nat.le_refl _), St.okB]; rfl))
      | false =>
        refine brP_split (fun h => ?_) (fun h => ?_)
        · rw [if_pos ⟨rfl, by simpa using h⟩]
          exact fin1 rfl
        rw [if_neg (by simp at h; simp [h])]
        refine ⟨by decide, ?_⟩
        cases f4 with
        | true =>
          refine PFun.call (checkExpr_c e he) ?_
          refine brP_split (fun h7 => ?_) (fun h7 => ?_)
          · have h7 : (checkS e == 0) = false := by simpa using h7
            exact fin1 (dbool (by rw [h7]; rfl))
          have h7 : (checkS e == 0) = true := by simpa using h7
          rw [h7]
          refine ⟨by decide, ?_⟩
          refine SWp.loop (fun k : Nat => k ≤ blocks.length ∧ St.okB (blocks.drop k) = St.okB blocks) (fun k => ([(85, .d (.sl (blocks.map blk))), (86, iv blocks.length), (87, iv k)], [])) (fun k => blocks.length - k) 0 ⟨Nat.zero_le _, rfl⟩ (.inr ⟨[], ⟨rfl, rfl⟩, rfl, rfl, sint (by rw [List.length_map]), rfl, trivial⟩) (fun j hj => ?_)
          obtain ⟨hj, hk⟩ := hj
          refine SWp.go pok (by kernel_rfl) ?_
          refine brP_split (fun h2 => ?_) (fun h2 => ?_)
          · have hlt : j < blocks.length := by simpa using h2
            refine Bl.inRow hlt ?_
            refine PFun.call (hare blocks[j] (List.getElem_mem hlt)) ?_
            refine brP_split (fun h3 => ?_) (fun h3 => ?_)
            · have h3 : St.okL blocks[j] = false := by simpa using h3
              exact fin1 (dbool (by rw [← hk, hdrop hlt, h3]; rfl))
            · have h3 : St.okL blocks[j] = true := by simpa using h3
              exact ⟨j + 1, ⟨hlt, by rw [← hk, hdrop hlt, h3]; rfl⟩, by omega, Le.same ⟨rfl, rfl, sint (wrap_nat j (by omega)), trivial⟩⟩
          · have hj' : j = blocks.length := by simp at h2; omega
            subst hj'
            exact fin1 (dbool (by rw [← hk, List.drop_of_length_le (Nat.le_refl _), St.okB]; rfl))
        | false =>
          refine ⟨by decide, ?_⟩
          refine PFun.call (isNone_c e) ?_
          refine brP_split (fun h7 => ?_) (fun h7 => ?_)
          · have h7 : isNoneS e = false := by simpa using h7
            exact fin1 (dbool (by rw [h7]; rfl))
          have h7 : isNoneS e = true := by simpa using h7
          rw [h7]
          refine SWp.loop (fun k : Nat => k ≤ blocks.length ∧ St.okB (blocks.drop k) = St.okB blocks) (fun k => ([(85, .d (.sl (blocks.map blk))), (86, iv blocks.length), (87, iv k)], [])) (fun k => blocks.length - k) 0 ⟨Nat.zero_le _, rfl⟩ (.inr ⟨[], ⟨rfl, rfl⟩, rfl, rfl, sint (by rw [List.length_map]), rfl, trivial⟩) (fun j hj => ?_)
          obtain ⟨hj, hk⟩ := hj
          refine SWp.go pok (by kernel_rfl) ?_
          refine brP_split (fun h2 => ?_) (fun h2 => ?_)
          · have hlt : j < blocks.length := by simpa using h2
            refine Bl.inRow hlt ?_
            refine PFun.call (hare blocks[j] (List.getElem_mem hlt)) ?_
            refine brP_split (fun h3 => ?_) (fun h3 => ?_)
            · have h3 : St.okL blocks[j] = false := by simpa using h3
              exact fin1 (dbool (by rw [← hk, hdrop hlt, h3]; rfl))
            · have h3 : St.okL blocks[j] = true := by simpa using h3
              exact ⟨j + 1, ⟨hlt, by rw [← hk, hdrop hlt, h3]; rfl⟩, by omega, Le.same ⟨rfl, rfl, sint (wrap_nat j (by omega)), trivial⟩⟩
          · have hj' : j = blocks.length := by simp at h2; omega
            subst hj'
            exact fin1 (dbool (by rw [← hk, List.drop_of_length_le (Nat.le_refl _), St.okB]; rfl))
end Go.Proofs.YtmflfcbebeikcaaGreatDoor.Q

namespace Go.Proofs.YtmflfcbebeikcaaGreatDoor.Q
open Go.RowKit
variable [Amb]
def Vr.ok (v : Vr) : Bool :=
  isName v.name && (!(minI v.lo [v.hi, v.init] == -9223372036854775808)) &&
  (if v.type = 1 then ((v.lo == 0) && (v.hi == 0)) && ((v.init == 0) || (v.init == 1)) else if v.type = 2 then (v.lo == 0) && (v.hi == 0) else if v.type = 3 then decide (v.lo ≤ v.hi) else false)
theorem isVar_c (v : Vr) (hn : v.name.length < 1073741824) : PFun Tryz.prog 79 [v.v] [] (.d (.bool v.ok)) [] := by
  unfold Vr.ok
  generalize hmin : minI v.lo [v.hi, v.init] = z
  refine fn_sem pok 51 0 Tryz.func79 (by kernel_rfl) rfl rfl rfl rfl ?_
  refine SWp.go pok (by kernel_rfl) ?_
  refine PFun.call (lexName_c v.name hn) ?_
  cases h1 : isName v.name with
  | false => exact fin1 rfl
  | true =>
  refine brP_split (fun h2 => ?_) (fun h2 => ?_)
  · have h2 : (z == -9223372036854775808) = true := by rw [← hmin]; exact h2
    exact fin1 (dbool (by rw [h2]; rfl))
  have h2 : (z == -9223372036854775808) = false := by rw [← hmin]; exact h2
  rw [h2]
  repeat' refine brP_split (fun h => ?_) (fun h => ?_)
  all_goals
    refine fin1 (dbool ?_)
    simp_all
structure BF (l : List St) : Prop where
  len : l.length < 1073741824
  fit : ∀ y ∈ l, SF y
theorem areStmts_c {l : List St} (h : BF l) : PFun Tryz.prog 76 [.d (.sl (l.map St.c))] [] (.d (.bool (St.okL l))) [] := areStmts_of l h.len fun y hy => isStmt_c (h.fit y hy)
def Mt.ok (f : Mt) : Bool := isName f.name && St.okL f.body
def Mo.ok (m : Mo) : Bool := isName m.name && decide (m.vars.length ≤ 16) && decide (m.methods.length ≤ 16) && m.vars.all Vr.ok && m.methods.all Mt.ok
def Ro.ok (r : Ro) : Bool := isName r.name && decide (r.count ≥ 0) && (!(r.star && (r.count != 0))) && St.okL r.body
structure MtF (f : Mt) : Prop where
  name : f.name.length < 1073741824
  body : BF f.body
structure MoF (m : Mo) : Prop where
  name : m.name.length < 1073741824
  vlen : m.vars.length < 1073741824
  mlen : m.methods.length < 1073741824
  vars : ∀ v ∈ m.vars, v.name.length < 1073741824
  meths : ∀ f ∈ m.methods, MtF f
structure RoF (r : Ro) : Prop where
  name : r.name.length < 1073741824
  body : BF r.body
theorem badVar_c (v : Vr) (hn : v.name.length < 1073741824) : PFun Tryz.prog 78 [v.v] [] (.d (.bool (!v.ok))) [] := by
  refine fn_sem pok 6 0 Tryz.func78 (by kernel_rfl) rfl rfl rfl rfl ?_
  refine SWp.go pok (by kernel_rfl) ?_
  refine PFun.call (isVar_c v hn) ?_
  refine brP_split (fun h3 => ?_) (fun h3 => ?_)
  · exact fin1 (dbool h3.symm)
  · exact fin1 (dbool h3.symm)
theorem badMeth_c (f : Mt) (h : MtF f) : PFun Tryz.prog 75 [f.v] [] (.d (.bool (!f.ok))) [] := by
  unfold Mt.ok
  refine fn_sem pok 13 0 Tryz.func75 (by kernel_rfl) rfl rfl rfl rfl ?_
  refine SWp.go pok (by kernel_rfl) ?_
  refine PFun.call (lexName_c f.name h.name) ?_
  cases h1 : isName f.name with
  | false => exact fin1 rfl
  | true =>
    refine PFun.call (areStmts_c h.body) ?_
    refine brP_split (fun h3 => ?_) (fun h3 => ?_)
    · have h3 : St.okL f.body = false := by simpa using h3
      exact fin1 (dbool (by rw [h3]; rfl))
    · have h3 : St.okL f.body = true := by simpa using h3
      exact fin1 (dbool (by rw [h3]; rfl))
theorem isMonitor_c (m : Mo) (h : MoF m) : PFun Tryz.prog 40 [m.v] [] (.d (.bool m.ok)) [] := by
  unfold Mo.ok
  refine fn_sem pok 31 0 Tryz.func40 (by kernel_rfl) rfl rfl rfl rfl ?_
  refine SWp.go pok (by kernel_rfl) ?_
  refine PFun.call (lexName_c m.name h.name) ?_
  cases h1 : isName m.name with
  | false => exact fin1 rfl
  | true =>
  refine brP_split (fun h2 => ?_) (fun h2 => ?_)
  · have h2 : decide (m.vars.length ≤ 16) = false := by simp at h2 ⊢; omega
    exact fin1 (dbool (by rw [h2]; rfl))
  have h2 : decide (m.vars.length ≤ 16) = true := by simp at h2 ⊢; omega
  rw [h2]
  refine brP_split (fun h3 => ?_) (fun h3 => ?_)
  · have h3 : decide (m.methods.length ≤ 16) = false := by simp at h3 ⊢; omega
    exact fin1 (dbool (by rw [h3]; rfl))
  have h3 : decide (m.methods.length ≤ 16) = true := by simp at h3 ⊢; omega
  rw [h3, ← not_any Vr.ok, ← not_any Mt.ok]
  refine PFun.call (anyVr_c _ (fun v => !v.ok) m.vars (fun v hv => badVar_c v (h.vars v hv)) h.vlen) ?_
  refine brP_split (fun h4 => ?_) (fun h4 => ?_)
  · rw [h4]
    refine PFun.call (anyMt_c _ (fun f => !f.ok) m.methods (fun f hf => badMeth_c f (h.meths f hf)) h.mlen) ?_
    refine brP_split (fun h5 => ?_) (fun h5 => ?_)
    · exact fin1 (dbool (by rw [h5]; rfl))
    · exact fin1 (dbool (by rw [h5]; rfl))
  · exact fin1 (dbool (by rw [h4]; rfl))
theorem isRole_c (r : Ro) (h : RoF r) : PFun Tryz.prog 41 [r.v] [] (.d (.bool r.ok)) [] := by
  unfold Ro.ok
  refine fn_sem pok 26 0 Tryz.func41 (by kernel_rfl) rfl rfl rfl rfl ?_
  refine SWp.go pok (by kernel_rfl) ?_
  refine PFun.call (lexName_c r.name h.name) ?_
  cases h1 : isName r.name with
  | false => exact fin1 rfl
  | true =>
  by_cases h2 : decide (r.count ≥ 0) = true
  case neg =>
    rw [Bool.not_eq_true] at h2
    refine brP_false h2 ?_
    exact fin1 (dbool (by rw [h2]; rfl))
  refine brP_true h2 ?_
  rw [h2]
  cases hst : r.star with
  | false =>
    refine PFun.call (areStmts_c h.body) ?_
    exact fin1 rfl
  | true =>
    refine brP_split (fun h3 => ?_) (fun h3 => ?_)
    · exact fin1 (dbool (by rw [h3]; rfl))
    rw [h3]
    refine PFun.call (areStmts_c h.body) ?_
    exact fin1 rfl
def Pg.ok (p : Pg) : Bool := decide (p.mons.length ≤ 8) && decide (p.roles.length ≤ 8) && p.mons.all Mo.ok && p.roles.all Ro.ok
structure PgF (p : Pg) : Prop where
  mons : ∀ m ∈ p.mons, MoF m
  roles : ∀ r ∈ p.roles, RoF r
def checkP (p : Pg) : Int := if p.ok then 0 else 20
theorem check_c (p : Pg) (h : PgF p) : PFun Tryz.prog 16 [p.v] [] (iv (checkP p)) [] := by
  unfold checkP Pg.ok
  refine fn_sem pok 39 0 Tryz.func16 (by kernel_rfl) rfl rfl rfl rfl ?_
  refine SWp.go pok (by kernel_rfl) ?_
  refine brP_split (fun h2 => ?_) (fun h2 => ?_)
  · have h2 : decide (p.mons.length ≤ 8) = false := by simp at h2 ⊢; omega
    exact fin1 (dint (by rw [h2]; rfl))
  have hm : p.mons.length ≤ 8 := by simp at h2; omega
  rw [decide_eq_true hm]
  refine brP_split (fun h3 => ?_) (fun h3 => ?_)
  · have h3 : decide (p.roles.length ≤ 8) = false := by simp at h3 ⊢; omega
    exact fin1 (dint (by rw [h3]; rfl))
  have hr : p.roles.length ≤ 8 := by simp at h3; omega
  rw [decide_eq_true hr]
  refine SWp.loop (fun k : Nat => k ≤ p.mons.length ∧ (p.mons.drop k).all Mo.ok = p.mons.all Mo.ok) (fun k => ([(1, .ptr 0 0), (18, .d (.sl (p.mons.map Mo.c))), (19, iv p.mons.length), (20, iv k)], [.box [.d (.sl (p.mons.map Mo.c)), .d (.sl (p.roles.map Ro.c))]])) (fun k => p.mons.length - k) 0 ⟨Nat.zero_le _, rfl⟩ (Le.same ⟨rfl, rfl, sint (by rw [List.length_map]), rfl, trivial⟩) (fun k hk => ?_)
  obtain ⟨hj, hk⟩ := hk
  refine SWp.go pok (by kernel_rfl) ?_
  refine brP_split (fun h4 => ?_) (fun h4 => ?_)
  · have hlt : k < p.mons.length := by simpa using h4
    have hat : (p.mons.drop k).all Mo.ok = (p.mons[k].ok && (p.mons.drop (k + 1)).all Mo.ok) := by rw [List.drop_eq_getElem_cons hlt]; rfl
    refine Mo.inRow hlt ?_
    refine PFun.call (isMonitor_c p.mons[k] (h.mons _ (List.getElem_mem hlt))) ?_
    refine brP_split (fun h5 => ?_) (fun h5 => ?_)
    · have h5 : p.mons[k].ok = false := by simpa using h5
      exact fin1 (dint (by rw [← hk, hat, h5]; rfl))
    · have h5 : p.mons[k].ok = true := by simpa using h5
      exact ⟨k + 1, ⟨hlt, by rw [← hk, hat, h5]; rfl⟩, by omega, .inr ⟨[0], ⟨rfl, rfl⟩, rfl, rfl, rfl, rfl, sint (wrap_nat k (by omega)), trivial⟩⟩
  have hk' : k = p.mons.length := by simp at h4; omega
  subst hk'
  rw [List.drop_of_length_le (Nat.le_refl _)] at hk
  rw [← hk]
  refine SWp.loop (fun k : Nat => k ≤ p.roles.length ∧ (p.roles.drop k).all Ro.ok = p.roles.all Ro.ok) (fun k => ([(29, .d (.sl (p.roles.map Ro.c))), (30, iv p.roles.length), (31, iv k)], [])) (fun k => p.roles.length - k) 0 ⟨Nat.zero_le _, rfl⟩ (.inr ⟨[], ⟨rfl, rfl⟩, rfl, rfl, sint (by rw [List.length_map]), rfl, trivial⟩) (fun k hk2 => ?_)
  obtain ⟨hj, hk2⟩ := hk2
  refine SWp.go pok (by kernel_rfl) ?_
  refine brP_split (fun h4 => ?_) (fun h4 => ?_)
  · have hlt : k < p.roles.length := by simpa using h4
    have hat : (p.roles.drop k).all Ro.ok = (p.roles[k].ok && (p.roles.drop (k + 1)).all Ro.ok) := by rw [List.drop_eq_getElem_cons hlt]; rfl
    refine Ro.inRow hlt ?_
    refine PFun.call (isRole_c p.roles[k] (h.roles _ (List.getElem_mem hlt))) ?_
    refine brP_split (fun h5 => ?_) (fun h5 => ?_)
    · have h5 : p.roles[k].ok = false := by simpa using h5
      exact fin1 (dint (by rw [← hk2, hat, h5]; rfl))
    · have h5 : p.roles[k].ok = true := by simpa using h5
      exact ⟨k + 1, ⟨hlt, by rw [← hk2, hat, h5]; rfl⟩, by omega, .inr ⟨[], ⟨rfl, rfl⟩, rfl, rfl, rfl, sint (wrap_nat k (by omega)), trivial⟩⟩
  · have hk' : k = p.roles.length := by simp at h4; omega
    subst hk'
    rw [List.drop_of_length_le (Nat.le_refl _)] at hk2
    rw [← hk2]
    exact fin1 rfl
end Go.Proofs.YtmflfcbebeikcaaGreatDoor.Q
