/- Expressions as texts. No condition. -/
import Derived.Test.YtmflfcbebeikcaaGreatDoorMD
import Derived.Test.YtmflfcbebeikcaaGreatDoorMC
import Derived.Test.YtmflfcbebeikcaaGreatDoorME
set_option linter.unusedVariables false
set_option linter.unusedSectionVars false
set_option linter.unnecessarySimpa false
set_option linter.unusedSimpArgs false
set_option maxRecDepth 100000
set_option maxHeartbeats 4000000
namespace Go.Proofs.YtmflfcbebeikcaaGreatDoor.Q
open Go.RowKit
variable [Amb]
/-- An expression's own level. -/
def levelS (op : Int) : Int := if op = 17 then 1 else if op = 16 then 2 else if op = 5 then 3 else if 10 ≤ op ∧ op ≤ 15 then 4 else if op = 8 ∨ op = 9 then 5 else 6
theorem level_c (op : Int) : PFun Tryz.prog 83 [iv op] [] (iv (levelS op)) [] := by
  refine fn_sem pok 26 0 Tryz.func83 (by kernel_rfl) rfl rfl rfl rfl ?_
  refine SWp.go pok (by kernel_rfl) ?_
  unfold levelS
  repeat' refine brP_split (fun h => ?_) (fun h => ?_)
  all_goals
    refine fin1 (dint ?_)
    simp at *
    try omega
theorem levelS_le (op : Int) : 1 ≤ levelS op ∧ levelS op ≤ 6 := by unfold levelS; repeat' split <;> omega
def leftS (op : Int) : Int := if levelS op = 4 then 5 else levelS op
def rightS (op : Int) : Int := if levelS op = 4 then 5 else levelS op + 1
theorem sides_c (op : Int) : PFun Tryz.prog 84 [iv op] [] (.agg [iv (leftS op), iv (rightS op)]) [] := by
  refine fn_sem pok 13 0 Tryz.func84 (by kernel_rfl) rfl rfl rfl rfl ?_
  refine SWp.go pok (by kernel_rfl) ?_
  refine PFun.call (level_c op) ?_
  have hb := levelS_le op
  refine brP_split (fun h => ?_) (fun h => ?_)
  · have h : levelS op = 4 := by simpa using h
    refine fin1 ?_
    unfold leftS rightS
    rw [if_pos h, if_pos h]
  · have h : ¬ levelS op = 4 := by simpa using h
    refine fin1 ?_
    unfold leftS rightS
    rw [if_neg h, if_neg h, wrap_in (show R64 (levelS op + 1) by unfold R64; omega)]
/-- The signs between two parts. -/
def signL : List (Int × Str) := [(8, [43]), (9, [45]), (10, [61, 61]), (11, [33, 61]), (12, [60]), (13, [60, 61]), (14, [62]), (15, [62, 61]), (16, [38, 38]), (17, [124, 124])]
def signO : Ob := .mp [iv 8, iv 9, iv 10, iv 11, iv 12, iv 13, iv 14, iv 15, iv 16, iv 17] [sv' [43], sv' [45], sv' [61, 61], sv' [33, 61], sv' [60], sv' [60, 61], sv' [62], sv' [62, 61], sv' [38, 38], sv' [124, 124]]
theorem signs_c : PFun Tryz.prog 46 [] [] (.map 0) [signO] := by
  refine fn_sem pok 3 0 Tryz.func46 (by kernel_rfl) rfl rfl rfl rfl ?_
  refine SWp.go pok (by kernel_rfl) ?_
  exact ⟨rfl, rfl⟩
/-- A pen: whether something was laid, the text, how deep it is. -/
def penO (u : Bool) (s : Str) (o : Int) : List Ob := [.bld 74 5 u s [iv o, .map 1], signO]
theorem pens_c : PFun Tryz.prog 21 [] [] (.ptr 0 0) (penO false [] 0) := by
  refine fn_sem pok 4 0 Tryz.func21 (by kernel_rfl) rfl rfl rfl rfl ?_
  refine SWp.go pok (by kernel_rfl) ?_
  refine PFun.call signs_c ?_
  exact ⟨rfl, rfl⟩
def strRows (l : List Str) : List (List D) := l.map fun s => [.str s]
theorem layp_c (l : List Str) (u : Bool) (s : Str) (o : Int) (hs : s.length + l.flatten.length ≤ 140737488355328) (hk : l.length < 1073741824) :
    PFun Tryz.prog 51 [.ptr 0 0, .d (.sl (strRows l))] (penO u s o) (.tup []) (penO (u || !l.isEmpty) (s ++ l.flatten) o) := by
  have hT : heads 74 2 := by unfold heads; kernel_rfl
  refine fn_sem pok 18 2 Tryz.func51 (by kernel_rfl) rfl rfl rfl rfl ?_
  refine SWp.go pok (by kernel_rfl) ?_
  refine SWp.loop (fun k : Nat => k ≤ l.length) (fun k => ([(0, .ptr 0 0), (6, .d (.sl (strRows l))), (7, iv l.length), (8, iv k)], penO (u || !(l.take k).isEmpty) (s ++ (l.take k).flatten) o)) (fun k => l.length - k) 0 (Nat.zero_le _) (.inr ⟨[0, 1], ⟨rfl, rfl⟩, by simp [penO]; rfl, rfl, rfl, sint (by unfold strRows; rw [List.length_map]), rfl, trivial⟩) (fun k hk' => ?_)
  refine SWp.go pok (by kernel_rfl) ?_
  refine brP_split (fun h => ?_) (fun h => ?_)
  · have hlt : k < l.length := by simpa using h
    refine PIdx.map (get_at hlt) ?_
    have e : (l.take (k + 1)).flatten = (l.take k).flatten ++ l[k] := by rw [List.take_succ_eq_append_getElem hlt, List.flatten_append, List.flatten_cons, List.flatten_nil, List.append_nil]
    have e2 : (l.take (k + 1)).isEmpty = false := by cases l with | nil => simp at hlt | cons a l => rfl
    have hle : (l.take (k + 1)).flatten.length ≤ l.flatten.length := by
      have := congrArg (fun x => (List.flatten x).length) (List.take_append_drop (k + 1) l)
      simp only [List.flatten_append, List.length_append] at this
      omega
    rw [e, List.length_append] at hle
    have c := wrStr_c 74 (u || !(l.take k).isEmpty) (s ++ (l.take k).flatten) [iv o, .map 1] l[k] hT (by rw [List.length_append]; omega) [signO]
    refine PFun.call c ?_
    refine ⟨k + 1, hlt, by omega, .inr ⟨[0, 1], ⟨rfl, rfl⟩, ?_, rfl, rfl, rfl, sint (wrap_nat k (by omega)), trivial⟩⟩
    simp only [penO, e, e2, Bool.not_false, Bool.or_true, List.append_assoc]
    rfl
  · have hge : k = l.length := by simp at h; omega
    subst hge
    rw [List.take_length]
    exact ⟨rfl, rfl⟩
end Go.Proofs.YtmflfcbebeikcaaGreatDoor.Q

namespace Go.Proofs.YtmflfcbebeikcaaGreatDoor.Q
open Go.RowKit
variable [Amb] [Pow]
theorem number_c (n : Int) (hn : R64 n) (u : Bool) (s : Str) (o : Int) (hl : s.length + (Lib.itoa n).length ≤ 140737488355328) :
    PFun Tryz.prog 52 [.ptr 0 0, iv n] (penO u s o) (.tup []) (penO true (s ++ Lib.itoa n) o) := by
  have hT : heads 74 2 := by unfold heads; kernel_rfl
  refine fn_sem pok 10 2 Tryz.func52 (by kernel_rfl) rfl rfl rfl rfl ?_
  refine SWp.go pok (by kernel_rfl) ?_
  refine ⟨_, _, formatInt_c n hn, ?_⟩
  refine ⟨_, _, wrStr_c 74 u s [iv o, .map 1] (Lib.itoa n) hT hl [signO], ?_⟩
  exact ⟨rfl, rfl⟩
theorem put1_c (x : Str) (u : Bool) (s : Str) (o : Int) (hl : s.length + x.length ≤ 140737488355328) :
    PFun Tryz.prog 51 [.ptr 0 0, .d (.sl [[.str x]])] (penO u s o) (.tup []) (penO true (s ++ x) o) := by
  have := layp_c [x] u s o (by simpa using hl) (by simp)
  simpa [strRows] using this
theorem put3_c (x y z : Str) (u : Bool) (s : Str) (o : Int) (hl : s.length + (x.length + (y.length + z.length)) ≤ 140737488355328) :
    PFun Tryz.prog 51 [.ptr 0 0, .d (.sl [[.str x], [.str y], [.str z]])] (penO u s o) (.tup []) (penO true (s ++ (x ++ (y ++ z))) o) := by
  have := layp_c [x, y, z] u s o (by simpa using hl) (by simp)
  simpa [strRows] using this
/-! ### what is laid -/
def signOf (op : Int) : Str := ((signL.find? fun p => p.1 == op).map (·.2)).getD []
/-- A text of a level, at a level. -/
def atL (p : Int × Str) (lv : Int) : Str := if p.1 < lv then [40] ++ (p.2 ++ [41]) else p.2
def kidAt (bs : List (Int × Str)) (k : Nat) (lv : Int) : Str := atL (bs.getD k (6, [])) lv
def bareK (op : Int) (mon name : Str) (n : Int) (bs : List (Int × Str)) : Str :=
  if op = 1 then Lib.itoa n else if op = 2 then [116, 114, 117, 101] else if op = 3 then [102, 97, 108, 115, 101] else if op = 4 then mon ++ ([46] ++ name) else
  if op = 5 then [33] ++ kidAt bs 0 3 else if op = 6 then [45] ++ kidAt bs 0 6 else if op = 7 then Lib.itoa n ++ ([32, 42, 32] ++ kidAt bs 0 6) else
  kidAt bs 0 (leftS op) ++ (([32] ++ (signOf op ++ [32])) ++ kidAt bs 1 (rightS op))
mutual
def Ex.bare : Ex → Str
  | ⟨op, mon, name, n, kids, _⟩ => bareK op mon name n (Ex.bares kids)
def Ex.bares : List Ex → List (Int × Str)
  | [] => []
  | a :: r => (levelS a.op, a.bare) :: Ex.bares r
end
/-- An expression's text at a level. -/
def Ex.pr (e : Ex) (lv : Int) : Str := atL (levelS e.op, e.bare) lv
structure PrOk (e : Ex) : Prop where
  part : ∀ y ∈ e.pre, isPartS y = true
  num : ∀ y ∈ e.pre, R64 y.n
theorem PrOk.kid {e : Ex} (h : PrOk e) {y : Ex} (hy : y ∈ e.kids) : PrOk y := by
  have hs : ∀ z ∈ y.pre, z ∈ e.pre := fun z hz => by
    rw [e.pre_eq, Ex.pres_map]
    exact List.mem_cons_of_mem _ (List.mem_flatMap.2 ⟨y, hy, hz⟩)
  exact ⟨fun z hz => h.part z (hs z hz), fun z hz => h.num z (hs z hz)⟩
theorem PrOk.self {e : Ex} (h : PrOk e) : (e.kids.length : Int) = partsS e.op ∧ R64 e.n := by
  have hm : e ∈ e.pre := by rw [e.pre_eq]; simp
  have h1 := h.part e hm
  unfold isPartS at h1
  simp only [Bool.and_eq_true] at h1
  exact ⟨by simpa using h1.1.1, h.num e hm⟩
theorem PrOk.op {e : Ex} (h : PrOk e) : 1 ≤ e.op ∧ e.op ≤ 17 := by
  have h1 := h.self.1
  unfold partsS at h1
  split at h1
  · omega
  split at h1
  · omega
  · rename_i h2 h3
    refine ⟨?_, by omega⟩
    rcases Int.lt_or_le 0 e.op with h4 | h4
    · omega
    · have : e.op = 0 := by omega
      rw [this] at h1
      simp [partsL] at h1
theorem PIdx.exz {l : List Ex} {z : Int} {k : Nat} {y : Ex} {K : List D → Prop} (hz : z = k) (h : l[k]? = some y) (c : K [.int .i64 y.op, .str y.mon, .str y.name, .int .i64 y.n, .sl (y.kids.map Ex.e), .int .i64 y.pl]) : PIdx (l.map Ex.e) z K := PIdx.map' hz h (by rw [Ex.e_row]; exact c)
theorem kid0 (a : Ex) (r : List Ex) (lv : Int) : kidAt (Ex.bares (a :: r)) 0 lv = a.pr lv := by rw [Ex.bares]; rfl
theorem kid1 (a b : Ex) (r : List Ex) (lv : Int) : kidAt (Ex.bares (a :: b :: r)) 1 lv = b.pr lv := by rw [Ex.bares, Ex.bares]; rfl
theorem len1 {kids : List Ex} {op : Int} (hk : (kids.length : Int) = partsS op) (h : partsS op = 1) : ∃ a, kids = [a] := by
  rw [h] at hk
  exact List.length_eq_one_iff.1 (by omega)
/-- What the pen does at an expression. -/
def Lays (e : Ex) (lv : Int) : Prop := ∀ (u : Bool) (s : Str) (o : Int), s.length + (e.pr lv).length ≤ 140737488355328 → PFun Tryz.prog 45 [.ptr 0 0, e.v, iv lv] (penO u s o) (.tup []) (penO true (s ++ e.pr lv) o)
theorem bare_c (e : Ex) (he : PrOk e) (ih : ∀ y ∈ e.kids, ∀ lv, Lays y lv) (lv : Int) (hlv : ¬ levelS e.op < lv) : Lays e lv := by
  intro u s o hl
  obtain ⟨hk, hn⟩ := he.self
  obtain ⟨o1, o2⟩ := he.op
  unfold Ex.pr atL at hl ⊢
  rw [if_neg hlv] at hl ⊢
  obtain ⟨op, mon, name, n, kids, pl⟩ := e
  dsimp only at *
  unfold Ex.bare at hl ⊢
  refine fn_sem pok 114 2 Tryz.func45 (by kernel_rfl) rfl rfl rfl rfl ?_
  refine SWp.go pok (by kernel_rfl) ?_
  refine PFun.call (level_c op) ?_
  refine brP_false (decide_eq_false hlv) ?_
  have hop : op = 1 ∨ op = 2 ∨ op = 3 ∨ op = 4 ∨ op = 5 ∨ op = 6 ∨ op = 7 ∨ op = 8 ∨ op = 9 ∨ op = 10 ∨ op = 11 ∨ op = 12 ∨ op = 13 ∨ op = 14 ∨ op = 15 ∨ op = 16 ∨ op = 17 := by omega
  rcases hop with rfl | rfl | rfl | rfl | rfl | rfl | rfl | hop
  · refine PFun.call (number_c n hn u s o hl) ?_
    exact ⟨rfl, rfl⟩
  · refine PFun.call (put1_c _ u s o hl) ?_
    exact ⟨rfl, rfl⟩
  · refine PFun.call (put1_c _ u s o hl) ?_
    exact ⟨rfl, rfl⟩
  · have e1 : bareK 4 mon name n (Ex.bares kids) = mon ++ ([46] ++ name) := rfl
    rw [e1] at hl
    simp only [List.length_append] at hl
    refine PFun.call (put3_c mon [46] name u s o hl) ?_
    exact ⟨rfl, rfl⟩
  · obtain ⟨a, rfl⟩ := len1 hk (by decide)
    have e1 : bareK 5 mon name n (Ex.bares [a]) = [33] ++ a.pr 3 := by rw [← kid0 a [] 3]; rfl
    rw [e1] at hl
    simp only [List.length_append] at hl
    refine PFun.call (put1_c [33] u s o (by omega)) ?_
    refine PIdx.exz (k := 0) rfl rfl ?_
    refine PFun.call (ih a (by simp) 3 true (s ++ [33]) o (by simp only [List.length_append]; omega)) ?_
    exact ⟨rfl, by rw [e1, List.append_assoc]; rfl⟩
  · obtain ⟨a, rfl⟩ := len1 hk (by decide)
    have e1 : bareK 6 mon name n (Ex.bares [a]) = [45] ++ a.pr 6 := by rw [← kid0 a [] 6]; rfl
    rw [e1] at hl
    simp only [List.length_append] at hl
    refine PFun.call (put1_c [45] u s o (by omega)) ?_
    refine PIdx.exz (k := 0) rfl rfl ?_
    refine PFun.call (ih a (by simp) 6 true (s ++ [45]) o (by simp only [List.length_append]; omega)) ?_
    exact ⟨rfl, by rw [e1, List.append_assoc]; rfl⟩
  · obtain ⟨a, rfl⟩ := len1 hk (by decide)
    have e1 : bareK 7 mon name n (Ex.bares [a]) = Lib.itoa n ++ ([32, 42, 32] ++ a.pr 6) := by rw [← kid0 a [] 6]; rfl
    rw [e1] at hl
    simp only [List.length_append] at hl
    refine PFun.call (number_c n hn u s o (by omega)) ?_
    refine PFun.call (put1_c [32, 42, 32] true (s ++ Lib.itoa n) o (by simp only [List.length_append]; omega)) ?_
    refine PIdx.exz (k := 0) rfl rfl ?_
    refine PFun.call (ih a (by simp) 6 true (s ++ Lib.itoa n ++ [32, 42, 32]) o (by simp only [List.length_append]; omega)) ?_
    exact ⟨rfl, by rw [e1]; simp only [List.append_assoc]; rfl⟩
  obtain ⟨a, b, rfl⟩ : ∃ a b, kids = [a, b] := by
    have h2 : partsS op = 2 := by
      rcases hop with rfl | rfl | rfl | rfl | rfl | rfl | rfl | rfl | rfl | rfl <;> decide
    match kids, hk with
    | [a, b], _ => exact ⟨a, b, rfl⟩
    | [], hk => rw [h2] at hk; simp at hk
    | [a], hk => rw [h2] at hk; simp at hk
    | a :: b :: c :: r, hk => rw [h2] at hk; simp at hk; omega
  have e1 : bareK op mon name n (Ex.bares [a, b]) = a.pr (leftS op) ++ (([32] ++ (signOf op ++ [32])) ++ b.pr (rightS op)) := by
    rw [← kid0 a [b], ← kid1 a b []]
    rcases hop with rfl | rfl | rfl | rfl | rfl | rfl | rfl | rfl | rfl | rfl <;> rfl
  rw [e1] at hl ⊢
  clear e1
  have l1 : s.length + (a.pr (leftS op)).length ≤ 140737488355328 := by simp only [List.length_append] at hl; omega
  have l2 : (s ++ a.pr (leftS op)).length + (([32] : Str).length + ((signOf op).length + ([32] : Str).length)) ≤ 140737488355328 := by simp only [List.length_append] at hl ⊢; omega
  have l3 : (s ++ a.pr (leftS op) ++ ([32] ++ (signOf op ++ [32]))).length + (b.pr (rightS op)).length ≤ 140737488355328 := by simp only [List.length_append] at hl ⊢; omega
  have c1 := ih a (by simp) (leftS op) u s o l1
  have c2 := put3_c [32] (signOf op) [32] true (s ++ a.pr (leftS op)) o l2
  have c3 := ih b (by simp) (rightS op) true (s ++ a.pr (leftS op) ++ ([32] ++ (signOf op ++ [32]))) o l3
  have e2 : penO true (s ++ a.pr (leftS op) ++ ([32] ++ (signOf op ++ [32])) ++ b.pr (rightS op)) o = penO true (s ++ (a.pr (leftS op) ++ (([32] ++ (signOf op ++ [32])) ++ b.pr (rightS op)))) o := by simp only [List.append_assoc]
  rw [← e2]
  have c0 := sides_c op
  generalize a.pr (leftS op) = A at c1 c2 c3 ⊢
  generalize b.pr (rightS op) = B at c3 ⊢
  rcases hop with rfl | rfl | rfl | rfl | rfl | rfl | rfl | rfl | rfl | rfl
  all_goals
    refine PFun.call c0 ?_
    refine PIdx.exz (k := 0) rfl rfl ?_
    refine ⟨by decide, ?_⟩
    refine ⟨_, _, c1, ?_⟩
    refine .inl ?_
    refine ⟨_, _, c2, ?_⟩
    refine PIdx.exz (k := 1) rfl rfl ?_
    refine ⟨by decide, ?_⟩
    refine ⟨_, _, c3, ?_⟩
    exact ⟨rfl, rfl⟩
theorem pexpr_c (N : Nat) : ∀ (e : Ex), e.pre.length ≤ N → PrOk e → ∀ lv, Lays e lv := by
  induction N with
  | zero => intro e h; have := e.pre_pos; omega
  | succ N ih =>
    intro e hN he lv
    have hkid : ∀ y ∈ e.kids, ∀ lv, Lays y lv := fun y hy => ih y (by have := e.pre_kid hy; omega) (he.kid hy)
    by_cases hlv : levelS e.op < lv
    · intro u s o hl
      have hb := bare_c e he hkid 1 (by have := levelS_le e.op; omega)
      have e1 : e.pr 1 = e.bare := by unfold Ex.pr atL; rw [if_neg (by have := levelS_le e.op; show ¬ levelS e.op < 1; omega)]
      have e2 : e.pr lv = [40] ++ (e.bare ++ [41]) := by unfold Ex.pr atL; rw [if_pos hlv]
      unfold Lays at hb
      rw [e1] at hb
      rw [e2] at hl ⊢
      simp only [List.length_append] at hl
      refine fn_sem pok 114 2 Tryz.func45 (by kernel_rfl) rfl rfl rfl rfl ?_
      refine SWp.go pok (by kernel_rfl) ?_
      refine PFun.call (level_c e.op) ?_
      refine brP_true (decide_eq_true hlv) ?_
      refine PFun.call (put1_c [40] u s o (by omega)) ?_
      refine PFun.call (hb true (s ++ [40]) o (by simp only [List.length_append]; omega)) ?_
      refine PFun.call (put1_c [41] true (s ++ [40] ++ e.bare) o (by simp only [List.length_append]; omega)) ?_
      exact ⟨rfl, by simp only [List.append_assoc]; rfl⟩
    · exact bare_c e he hkid lv hlv
end Go.Proofs.YtmflfcbebeikcaaGreatDoor.Q

namespace Go.Proofs.YtmflfcbebeikcaaGreatDoor.Q
open Go.RowKit
variable [Amb] [Pow]
def atN (p : Int × Int) (lv : Int) : Int := if p.1 < lv then 1 + p.2 else p.2
def bnK (op : Int) (ns : List (Int × Int)) : Int := match ns with
  | [] => 0
  | [a] => 1 + atN a (if op = 5 then 3 else 6)
  | a :: b :: _ => max (atN a (leftS op)) (atN b (rightS op))
mutual
def Ex.bn : Ex → Int
  | ⟨op, mon, name, n, kids, _⟩ => bnK op (Ex.bns kids)
def Ex.bns : List Ex → List (Int × Int)
  | [] => []
  | a :: r => (levelS a.op, a.bn) :: Ex.bns r
end
/-- How deep an expression's text is at a level. -/
def Ex.ns (e : Ex) (lv : Int) : Int := atN (levelS e.op, e.bn) lv
theorem PrOk.shape {e : Ex} (h : PrOk e) : (e.kids = [] ∧ e.op ≤ 4) ∨ (∃ a, e.kids = [a] ∧ 5 ≤ e.op ∧ e.op ≤ 7) ∨ ∃ a b, e.kids = [a, b] ∧ 8 ≤ e.op := by
  obtain ⟨hk, _⟩ := h.self
  obtain ⟨o1, o2⟩ := h.op
  generalize e.kids = kids at hk ⊢
  generalize e.op = op at hk o1 o2 ⊢
  have hop : op = 1 ∨ op = 2 ∨ op = 3 ∨ op = 4 ∨ op = 5 ∨ op = 6 ∨ op = 7 ∨ op = 8 ∨ op = 9 ∨ op = 10 ∨ op = 11 ∨ op = 12 ∨ op = 13 ∨ op = 14 ∨ op = 15 ∨ op = 16 ∨ op = 17 := by omega
  have z : ∀ {n : Nat}, (kids.length : Int) = n → kids.length = n := fun h => by omega
  rcases hop with rfl | rfl | rfl | rfl | rfl | rfl | rfl | hop
  iterate 4 exact .inl ⟨List.eq_nil_of_length_eq_zero (z hk), by decide⟩
  iterate 3
    obtain ⟨a, rfl⟩ := len1 hk (by decide)
    exact .inr (.inl ⟨a, rfl, by decide, by decide⟩)
  have h2 : partsS op = 2 := by
    rcases hop with rfl | rfl | rfl | rfl | rfl | rfl | rfl | rfl | rfl | rfl <;> decide
  rw [h2] at hk
  match kids, hk with
  | [a, b], _ => exact .inr (.inr ⟨a, b, rfl, by omega⟩)
  | [], hk => simp at hk
  | [a], hk => simp at hk
  | a :: b :: c :: r, hk => simp at hk; omega
theorem ns_bound (N : Nat) : ∀ (e : Ex), e.pre.length ≤ N → PrOk e → 0 ≤ e.bn ∧ e.bn + 2 ≤ 2 * e.pre.length := by
  induction N with
  | zero => intro e h; have := e.pre_pos; omega
  | succ N ih =>
    intro e hN he
    have hk : ∀ y ∈ e.kids, ∀ lv, 0 ≤ y.ns lv ∧ y.ns lv + 1 ≤ 2 * y.pre.length := fun y hy lv => by
      have := ih y (by have := e.pre_kid hy; omega) (he.kid hy)
      unfold Ex.ns atN
      split <;> dsimp only <;> omega
    have hp : ∀ y ∈ e.kids, y.pre.length + 1 ≤ e.pre.length := fun y hy => e.pre_kid hy
    have hsh := he.shape
    have h0 := e.pre_pos
    obtain ⟨op, mon, name, n, kids, pl⟩ := e
    dsimp only at *
    rw [Ex.bn]
    rcases hsh with ⟨rfl, _⟩ | ⟨a, rfl, _⟩ | ⟨a, b, rfl, _⟩
    · rw [Ex.bns]
      show 0 ≤ (0 : Int) ∧ (0 : Int) + 2 ≤ _
      omega
    · rw [Ex.bns, Ex.bns]
      have h1 := hk a (by simp) (if op = 5 then 3 else 6)
      have h2 := hp a (by simp)
      show 0 ≤ 1 + a.ns (if op = 5 then 3 else 6) ∧ 1 + a.ns (if op = 5 then 3 else 6) + 2 ≤ _
      omega
    · rw [Ex.bns, Ex.bns, Ex.bns]
      have h1 := hk a (by simp) (leftS op)
      have h2 := hp a (by simp)
      have h3 := hk b (by simp) (rightS op)
      have h4 := hp b (by simp)
      show 0 ≤ max (a.ns (leftS op)) (b.ns (rightS op)) ∧ max (a.ns (leftS op)) (b.ns (rightS op)) + 2 ≤ _
      omega
def Nests (e : Ex) (lv : Int) : Prop := PFun Tryz.prog 44 [e.v, iv lv] [] (iv (e.ns lv)) []
theorem bnest_c (e : Ex) (he : PrOk e) (hf : e.pre.length < 1073741824) (ih : ∀ y ∈ e.kids, ∀ lv, Nests y lv) (lv : Int) (hlv : ¬ levelS e.op < lv) : Nests e lv := by
  have hb := (ns_bound _ e (Nat.le_refl _) he)
  have hsh := he.shape
  have hk : ∀ y ∈ e.kids, ∀ lv, 0 ≤ y.ns lv ∧ y.ns lv < 4294967296 := fun y hy lv => by
    have h1 := ns_bound _ y (Nat.le_refl _) (he.kid hy)
    have h2 := e.pre_kid hy
    unfold Ex.ns atN
    split <;> dsimp only <;> omega
  unfold Nests Ex.ns atN
  rw [if_neg hlv]
  obtain ⟨op, mon, name, n, kids, pl⟩ := e
  dsimp only at *
  rw [Ex.bn]
  refine fn_sem pok 59 0 Tryz.func44 (by kernel_rfl) rfl rfl rfl rfl ?_
  refine SWp.go pok (by kernel_rfl) ?_
  refine PFun.call (level_c op) ?_
  refine brP_false (decide_eq_false hlv) ?_
  rcases hsh with ⟨rfl, ho⟩ | ⟨a, rfl, ho⟩ | ⟨a, b, rfl, ho⟩
  · rw [Ex.bns]
    exact fin1 rfl
  · rw [Ex.bns, Ex.bns]
    refine brP_split (fun h => ?_) (fun h => ?_)
    · have h : op = 5 := by simpa using h
      subst h
      refine PIdx.exz (k := 0) rfl rfl ?_
      refine PFun.call (ih a (by simp) 3) ?_
      have := hk a (by simp) 3
      exact fin1 (dint (wrap_in (show R64 (1 + a.ns 3) by unfold R64; omega)))
    · have h : ¬ op = 5 := by simpa using h
      refine PIdx.exz (k := 0) rfl rfl ?_
      refine PFun.call (ih a (by simp) 6) ?_
      have := hk a (by simp) 6
      refine fin1 (dint ?_)
      rw [wrap_in (show R64 (1 + a.ns 6) by unfold R64; omega)]
      show _ = 1 + a.ns (if op = 5 then 3 else 6)
      rw [if_neg h]
  · rw [Ex.bns, Ex.bns, Ex.bns]
    have h5 : (op == 5) = false := by simp; omega
    repeat refine brP_false h5 ?_
    refine PFun.call (sides_c op) ?_
    refine PIdx.exz (k := 0) rfl rfl ?_
    refine ⟨by decide, ?_⟩
    refine ⟨_, _, ih a (by simp) (leftS op), ?_⟩
    refine PIdx.exz (k := 1) rfl rfl ?_
    refine ⟨by decide, ?_⟩
    refine ⟨_, _, ih b (by simp) (rightS op), ?_⟩
    refine fin1 (dint ?_)
    show maxI (a.ns (leftS op)) [b.ns (rightS op)] = max (a.ns (leftS op)) (b.ns (rightS op))
    simp only [maxI]
    try split
    all_goals omega
theorem nest_c (N : Nat) : ∀ (e : Ex), e.pre.length ≤ N → e.pre.length < 1073741824 → PrOk e → ∀ lv, Nests e lv := by
  induction N with
  | zero => intro e h; have := e.pre_pos; omega
  | succ N ih =>
    intro e hN hf he lv
    have hkid : ∀ y ∈ e.kids, ∀ lv, Nests y lv := fun y hy => by
      have := e.pre_kid hy
      exact ih y (by omega) (by omega) (he.kid hy)
    by_cases hlv : levelS e.op < lv
    · have hl := levelS_le e.op
      have hb := bnest_c e he hf hkid 1 (by omega)
      have hbd := ns_bound _ e (Nat.le_refl _) he
      unfold Nests Ex.ns atN at hb ⊢
      rw [if_neg (by show ¬ levelS e.op < 1; omega)] at hb
      rw [if_pos hlv]
      refine fn_sem pok 59 0 Tryz.func44 (by kernel_rfl) rfl rfl rfl rfl ?_
      refine SWp.go pok (by kernel_rfl) ?_
      refine PFun.call (level_c e.op) ?_
      refine brP_true (decide_eq_true hlv) ?_
      refine PFun.call hb ?_
      exact fin1 (dint (wrap_in (show R64 (1 + e.bn) by unfold R64; omega)))
    · exact bnest_c e he hf hkid lv hlv
/-- A text, if it is not too long. -/
def toldS (x : Str) : Str × Int := if x.length > 20000 then ([], 1) else (x, 0)
theorem told_c (x : Str) : PFun Tryz.prog 24 [sv' x] [] (.tup [sv' (toldS x).1, iv (toldS x).2]) [] := by
  refine fn_sem pok 8 0 Tryz.func24 (by kernel_rfl) rfl rfl rfl rfl ?_
  refine SWp.go pok (by kernel_rfl) ?_
  unfold toldS
  refine brP_split (fun h => ?_) (fun h => ?_)
  · rw [if_pos (by simp at h; omega)]
    exact fin1 rfl
  · rw [if_neg (by simp at h; omega)]
    exact fin1 rfl
/-- An expression as a text. -/
def exprP (e : Ex) : Str × Int := if checkS e ≠ 0 then ([], checkS e) else if e.ns 1 > 64 then ([], 41) else toldS (e.pr 1)
theorem checkS_ok {e : Ex} (h : checkS e = 0) (hn : ∀ y ∈ e.pre, R64 y.n) : PrOk e := by
  unfold checkS at h
  cases hall : e.pre.all isPartS with
  | true => exact ⟨List.all_eq_true.1 hall, hn⟩
  | false => rw [hall] at h; exact absurd h (by decide)
theorem printExpr_c (e : Ex) (hf : e.fits) (hn : ∀ y ∈ e.pre, R64 y.n) (hl : PrOk e → (e.pr 1).length ≤ 140737488355328) : PFun Tryz.prog 19 [e.v] [] (.tup [sv' (exprP e).1, iv (exprP e).2]) [] := by
  refine fn_sem pok 25 0 Tryz.func19 (by kernel_rfl) rfl rfl rfl rfl ?_
  refine SWp.go pok (by kernel_rfl) ?_
  refine PFun.call (checkExpr_c e hf) ?_
  unfold exprP
  refine brP_split (fun h => ?_) (fun h => ?_)
  · have h : checkS e ≠ 0 := by simpa using h
    rw [if_pos h]
    exact fin1 rfl
  have h : checkS e = 0 := by simpa using h
  rw [if_neg (fun k => k h)]
  have he := checkS_ok h hn
  have hnest := nest_c _ e (Nat.le_refl _) hf.1 he 1
  unfold Nests at hnest
  refine PFun.call hnest ?_
  refine brP_split (fun h2 => ?_) (fun h2 => ?_)
  · have h2 : e.ns 1 > 64 := by simpa using h2
    rw [if_pos h2]
    exact fin1 rfl
  have h2 : ¬ e.ns 1 > 64 := by simp at h2; omega
  rw [if_neg h2]
  have hp := pexpr_c _ e (Nat.le_refl _) he 1 false [] 0 (by simpa using hl he)
  rw [List.nil_append] at hp
  refine PFun.call pens_c ?_
  refine PFun.call hp ?_
  refine PFun.call (string_c 74 true (e.pr 1) [iv 0, .map 1] [signO]) ?_
  refine PFun.call (told_c (e.pr 1)) ?_
  exact fin1 rfl
def nestP (e : Ex) : Int := if checkS e ≠ 0 then 0 else e.ns 1
theorem nestExpr_c (e : Ex) (hf : e.fits) (hn : ∀ y ∈ e.pre, R64 y.n) : PFun Tryz.prog 20 [e.v] [] (iv (nestP e)) [] := by
  refine fn_sem pok 8 0 Tryz.func20 (by kernel_rfl) rfl rfl rfl rfl ?_
  refine SWp.go pok (by kernel_rfl) ?_
  refine PFun.call (checkExpr_c e hf) ?_
  unfold nestP
  refine brP_split (fun h => ?_) (fun h => ?_)
  · have h : checkS e ≠ 0 := by simpa using h
    rw [if_pos h]
    exact fin1 rfl
  have h : checkS e = 0 := by simpa using h
  rw [if_neg (fun k => k h)]
  have he := checkS_ok h hn
  have hnest := nest_c _ e (Nat.le_refl _) hf.1 he 1
  unfold Nests at hnest
  refine PFun.call hnest ?_
  exact fin1 rfl
end Go.Proofs.YtmflfcbebeikcaaGreatDoor.Q
