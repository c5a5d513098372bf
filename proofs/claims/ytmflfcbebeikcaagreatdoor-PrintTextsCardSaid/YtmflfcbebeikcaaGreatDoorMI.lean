/- Statements and programs as texts. No condition. -/
import Derived.Test.YtmflfcbebeikcaaGreatDoorMF
import Derived.Test.YtmflfcbebeikcaaGreatDoorMH
set_option linter.unusedVariables false
set_option linter.unusedSectionVars false
set_option linter.unnecessarySimpa false
set_option linter.unusedSimpArgs false
set_option maxRecDepth 100000
set_option maxHeartbeats 4000000
namespace Go.Proofs.YtmflfcbebeikcaaGreatDoor.Q
open Go.RowKit
variable [Amb] [Pow]
abbrev room : Nat := 140737488355328
/-- The blanks ahead of a line. -/
def ind : Nat → Str
  | 0 => []
  | k + 1 => ind k ++ [32, 32]
theorem ind_len (k : Nat) : (ind k).length = 2 * k := by
  induction k with
  | zero => rfl
  | succ k ih => rw [ind, List.length_append, ih]; simp; omega
theorem begin_c (l : List Str) (hne : l ≠ []) (hk : l.length < 1073741824) (u : Bool) (s : Str) (o : Nat) (hl : s.length + ((ind o).length + l.flatten.length) ≤ room) :
    PFun Tryz.prog 49 [.ptr 0 0, .d (.sl (strRows l))] (penO u s o) (.tup []) (penO true (s ++ (ind o ++ l.flatten)) o) := by
  refine fn_sem pok 17 2 Tryz.func49 (by kernel_rfl) rfl rfl rfl rfl ?_
  refine SWp.go pok (by kernel_rfl) ?_
  refine SWp.loop (fun k : Nat => k ≤ o) (fun k => ([(0, .ptr 0 0), (1, .d (.sl (strRows l))), (7, iv o), (8, iv k)], penO (u || decide (0 < k)) (s ++ ind k) o)) (fun k => o - k) 0 (Nat.zero_le _) (.inr ⟨[0, 1], ⟨rfl, rfl⟩, by simp [penO, ind]; rfl, rfl, rfl, rfl, rfl, trivial⟩) (fun k hk' => ?_)
  refine SWp.go pok (by kernel_rfl) ?_
  have hik := ind_len k
  have hio := ind_len o
  have hR : room = 140737488355328 := rfl
  refine brP_split (fun h => ?_) (fun h => ?_)
  · have hlt : k < o := by simpa using h
    have c := put1_c [32, 32] (u || decide (0 < k)) (s ++ ind k) o (by rw [List.length_append, hik]; show s.length + 2 * k + 2 ≤ room; omega)
    refine PFun.call c ?_
    refine ⟨k + 1, hlt, by omega, .inr ⟨[0, 1], ⟨rfl, rfl⟩, ?_, rfl, rfl, rfl, sint (wrap_nat k (by omega)), trivial⟩⟩
    have e : decide (0 < k + 1) = true := decide_eq_true (by omega)
    simp only [penO, ind, e, Bool.or_true, List.append_assoc]
    rfl
  · have hge : k = o := by simp at h; omega
    subst hge
    have c := layp_c l (u || decide (0 < k)) (s ++ ind k) k (by rw [List.length_append]; show s.length + (ind k).length + l.flatten.length ≤ room; omega) hk
    have e : l.isEmpty = false := by cases l with | nil => exact absurd rfl hne | cons a l => rfl
    rw [e, Bool.not_false, Bool.or_true, List.append_assoc] at c
    refine PFun.call c ?_
    exact ⟨rfl, rfl⟩
theorem line_c (l : List Str) (hne : l ≠ []) (hk : l.length < 1073741824) (u : Bool) (s : Str) (o : Nat) (hl : s.length + ((ind o).length + (l.flatten.length + 1)) ≤ room) :
    PFun Tryz.prog 47 [.ptr 0 0, .d (.sl (strRows l))] (penO u s o) (.tup []) (penO true (s ++ (ind o ++ (l.flatten ++ [10]))) o) := by
  refine fn_sem pok 10 2 Tryz.func47 (by kernel_rfl) rfl rfl rfl rfl ?_
  refine SWp.go pok (by kernel_rfl) ?_
  refine PFun.call (begin_c l hne hk u s o (by omega)) ?_
  refine PFun.call (put1_c [10] true (s ++ (ind o ++ l.flatten)) o (by simp only [List.length_append]; show _ + 1 ≤ room; omega)) ?_
  exact ⟨rfl, by simp only [List.append_assoc]; rfl⟩
/-! ### what is laid -/
def catS (f : St → Str) : List St → Str
  | [] => []
  | a :: r => f a ++ catS f r
def blockT (f : St → Nat → Str) (l : List St) (o : Nat) : Str := [32, 123, 10] ++ (catS (fun s => f s (o + 1)) l ++ (ind o ++ [125]))
def LaysSt (f : St → Nat → Str) (y : St) (o : Nat) : Prop := ∀ s, s.length + (f y o).length ≤ room → PFun Tryz.prog 86 [.ptr 0 0, y.v] (penO true s o) (.tup []) (penO true (s ++ f y o) o)
theorem catS_take (f : St → Str) : ∀ {l : List St} {k : Nat} (h : k < l.length), catS f (l.take (k + 1)) = catS f (l.take k) ++ f l[k]
  | a :: r, 0, _ => by simp [catS]
  | a :: r, k + 1, h => by
    rw [List.take_succ_cons, List.take_succ_cons, catS, catS, catS_take f (by simpa using h), List.append_assoc]; rfl
theorem catS_le (f : St → Str) : ∀ (l : List St) (k : Nat), (catS f (l.take k)).length ≤ (catS f l).length
  | [], k => by simp
  | a :: r, 0 => by simp [catS]
  | a :: r, k + 1 => by
    rw [List.take_succ_cons, catS, catS, List.length_append, List.length_append]
    have := catS_le f r k
    omega
theorem layblk_of (f : St → Nat → Str) (l : List St) (o : Nat) (hl : l.length < 1073741824) (h : ∀ y ∈ l, LaysSt f y (o + 1)) (u : Bool) (s : Str) (hr : s.length + (blockT f l o).length ≤ room) :
    PFun Tryz.prog 50 [.ptr 0 0, .d (.sl (l.map St.c))] (penO u s o) (.tup []) (penO true (s ++ blockT f l o) o) := by
  unfold blockT at hr ⊢
  simp only [List.length_append] at hr
  have h3 : ([32, 123, 10] : Str).length = 3 := rfl
  have h1 : ([125] : Str).length = 1 := rfl
  have hR : room = 140737488355328 := rfl
  have hio := ind_len o
  refine fn_sem pok 36 2 Tryz.func50 (by kernel_rfl) rfl rfl rfl rfl ?_
  refine SWp.go pok (by kernel_rfl) ?_
  refine PFun.call (put1_c [32, 123, 10] u s o (by omega)) ?_
  refine SWp.loop (fun k : Nat => k ≤ l.length) (fun k => ([(0, .ptr 0 0), (16, .d (.sl (l.map St.c))), (17, iv l.length), (18, iv k)], penO true (s ++ ([32, 123, 10] ++ catS (fun s => f s (o + 1)) (l.take k))) (o + 1 : Nat))) (fun k => l.length - k) 0 (Nat.zero_le _) (.inr ⟨[0, 1], ⟨rfl, rfl⟩, by simp only [List.take_zero, catS, List.append_nil, penO]; rw [wrap_nat o (by omega)]; rfl, rfl, rfl, sint (by rw [List.length_map]), rfl, trivial⟩) (fun k hk => ?_)
  refine SWp.go pok (by kernel_rfl) ?_
  refine brP_split (fun h4 => ?_) (fun h4 => ?_)
  · have hlt : k < l.length := by simpa using h4
    have e := catS_take (fun s => f s (o + 1)) hlt
    have hle := catS_le (fun s => f s (o + 1)) l (k + 1)
    rw [e, List.length_append] at hle
    refine St.inRow hlt ?_
    have c := h l[k] (List.getElem_mem hlt) (s ++ ([32, 123, 10] ++ catS (fun s => f s (o + 1)) (l.take k))) (by simp only [List.length_append]; omega)
    refine PFun.call c ?_
    refine ⟨k + 1, hlt, by omega, .inr ⟨[0, 1], ⟨rfl, rfl⟩, ?_, rfl, rfl, rfl, sint (wrap_nat k (by omega)), trivial⟩⟩
    rw [e]
    simp only [penO, List.append_assoc]
    rfl
  · have hge : k = l.length := by simp at h4; omega
    subst hge
    rw [List.take_length]
    have hw : IntKind.i64.wrap (((o + 1 : Nat) : Int) - 1) = (o : Int) := by rw [wrap_in (by unfold R64; omega)]; omega
    have c := begin_c [[125]] (by simp) (by simp) true (s ++ ([32, 123, 10] ++ catS (fun s => f s (o + 1)) l)) o (by simp only [List.length_append, List.flatten_cons, List.flatten_nil, List.length_nil]; omega)
    rw [← hw] at c
    refine PFun.call c ?_
    exact ⟨rfl, by rw [hw]; simp only [List.flatten_cons, List.flatten_nil, List.append_nil, List.append_assoc]; rfl⟩
theorem put2_c (x y : Str) (u : Bool) (s : Str) (o : Int) (hl : s.length + (x.length + y.length) ≤ 140737488355328) :
    PFun Tryz.prog 51 [.ptr 0 0, .d (.sl [[.str x], [.str y]])] (penO u s o) (.tup []) (penO true (s ++ (x ++ y)) o) := by
  have := layp_c [x, y] u s o (by simpa using hl) (by simp)
  simpa [strRows] using this
def sepB (word : Str) (i : Nat) : Str := if i = 0 then [] else [32] ++ word
def catB (f : St → Nat → Str) (word : Str) (o : Nat) : Nat → List (List St) → Str
  | _, [] => []
  | i, b :: r => (sepB word i ++ blockT f b o) ++ catB f word o (i + 1) r
theorem catB_take (f : St → Nat → Str) (word : Str) (o : Nat) : ∀ {l : List (List St)} {k : Nat} (i : Nat) (h : k < l.length), catB f word o i (l.take (k + 1)) = catB f word o i (l.take k) ++ (sepB word (i + k) ++ blockT f l[k] o)
  | a :: r, 0, i, _ => by simp [catB]
  | a :: r, k + 1, i, h => by
    rw [List.take_succ_cons, List.take_succ_cons, catB, catB, catB_take f word o (i + 1) (by simpa using h), show i + 1 + k = i + (k + 1) by omega]; simp only [List.append_assoc]; rfl
theorem catB_le (f : St → Nat → Str) (word : Str) (o : Nat) : ∀ (l : List (List St)) (k i : Nat), (catB f word o i (l.take k)).length ≤ (catB f word o i l).length
  | [], k, i => by simp
  | a :: r, 0, i => by simp [catB]
  | a :: r, k + 1, i => by
    rw [List.take_succ_cons, catB, catB]
    simp only [List.length_append]
    have := catB_le f word o r k (i + 1)
    omega
def blocksT (f : St → Nat → Str) (word : Str) (l : List (List St)) (o : Nat) : Str := catB f word o 0 l ++ [10]
theorem blocks_of (f : St → Nat → Str) (word : Str) (l : List (List St)) (o : Nat) (hl : l.length < 1073741824) (hb : ∀ b ∈ l, b.length < 1073741824) (h : ∀ b ∈ l, ∀ y ∈ b, LaysSt f y (o + 1)) (s : Str) (hr : s.length + (blocksT f word l o).length ≤ room) :
    PFun Tryz.prog 149 [.ptr 0 0, .d (.sl (l.map blk)), sv' word] (penO true s o) (.tup []) (penO true (s ++ blocksT f word l o) o) := by
  unfold blocksT at hr ⊢
  simp only [List.length_append] at hr
  have h1 : ([10] : Str).length = 1 := rfl
  have hR : room = 140737488355328 := rfl
  refine fn_sem pok 28 2 Tryz.func149 (by kernel_rfl) rfl rfl rfl rfl ?_
  refine SWp.go pok (by kernel_rfl) ?_
  refine SWp.loop (fun k : Nat => k ≤ l.length) (fun k => ([(0, .ptr 0 0), (2, sv' word), (8, .d (.sl (l.map blk))), (9, iv l.length), (10, iv k)], penO true (s ++ catB f word o 0 (l.take k)) o)) (fun k => l.length - k) 0 (Nat.zero_le _) (.inr ⟨[0, 1], ⟨rfl, rfl⟩, by simp only [List.take_zero, catB, List.append_nil]; rfl, rfl, rfl, rfl, sint (by rw [List.length_map]), rfl, trivial⟩) (fun k hk => ?_)
  refine SWp.go pok (by kernel_rfl) ?_
  refine brP_split (fun h4 => ?_) (fun h4 => ?_)
  · have hlt : k < l.length := by simpa using h4
    have e := catB_take f word o 0 hlt
    rw [Nat.zero_add] at e
    have hle := catB_le f word o l (k + 1) 0
    rw [e, List.length_append, List.length_append] at hle
    refine Bl.inRow hlt ?_
    have hm := List.getElem_mem hlt
    refine brP_split (fun h0 => ?_) (fun h0 => ?_)
    · have h0 : 0 < k := by simpa using h0
      have es : sepB word k = [32] ++ word := by unfold sepB; rw [if_neg (by omega)]
      rw [es] at e hle
      simp only [List.length_append] at hle
      refine PFun.call (put2_c [32] word true (s ++ catB f word o 0 (l.take k)) o (by simp only [List.length_append]; omega)) ?_
      refine PFun.call (layblk_of f l[k] o (hb _ hm) (h _ hm) true (s ++ catB f word o 0 (l.take k) ++ ([32] ++ word)) (by simp only [List.length_append]; omega)) ?_
      refine ⟨k + 1, hlt, by omega, .inr ⟨[0, 1], ⟨rfl, rfl⟩, ?_, rfl, rfl, rfl, rfl, sint (wrap_nat k (by omega)), trivial⟩⟩
      rw [e]
      simp only [penO, List.append_assoc]
      rfl
    · have h0 : k = 0 := by simp at h0; omega
      subst h0
      have es : sepB word 0 = [] := rfl
      rw [es] at e hle
      refine PFun.call (layblk_of f l[0] o (hb _ hm) (h _ hm) true (s ++ catB f word o 0 (l.take 0)) (by simp only [List.length_append]; omega)) ?_
      refine ⟨1, hlt, by omega, .inr ⟨[0, 1], ⟨rfl, rfl⟩, ?_, rfl, rfl, rfl, rfl, rfl, trivial⟩⟩
      rw [e]
      simp only [penO, List.append_assoc, List.nil_append]
      rfl
  · have hge : k = l.length := by simp at h4; omega
    subst hge
    rw [List.take_length]
    refine PFun.call (put1_c [10] true (s ++ catB f word o 0 l) o (by simp only [List.length_append]; omega)) ?_
    exact ⟨rfl, by simp only [List.append_assoc]; rfl⟩
/-- A word, an expression if there is one, blocks. -/
def exT (e : Ex) : Str := if e.op = 0 then [] else [32] ++ e.pr 1
def headedT (f : St → Nat → Str) (e : Ex) (l : List (List St)) (head word : Str) (o : Nat) : Str := (ind o ++ head) ++ (exT e ++ blocksT f word l o)
theorem headed_of (f : St → Nat → Str) (x : St) (head word : Str) (o : Nat) (he : x.e.op ≠ 0 → PrOk x.e) (hl : x.blocks.length < 1073741824) (hb : ∀ b ∈ x.blocks, b.length < 1073741824) (h : ∀ b ∈ x.blocks, ∀ y ∈ b, LaysSt f y (o + 1)) (s : Str) (hr : s.length + (headedT f x.e x.blocks head word o).length ≤ room) :
    PFun Tryz.prog 126 [.ptr 0 0, x.v, sv' head, sv' word] (penO true s o) (.tup []) (penO true (s ++ headedT f x.e x.blocks head word o) o) := by
  unfold headedT at hr ⊢
  simp only [List.length_append] at hr
  have hR : room = 140737488355328 := rfl
  have c0 := begin_c [head] (by simp) (by simp) true s o (by simp only [List.flatten_cons, List.flatten_nil, List.append_nil]; omega)
  simp only [List.flatten_cons, List.flatten_nil, List.append_nil] at c0
  refine fn_sem pok 28 2 Tryz.func126 (by kernel_rfl) rfl rfl rfl rfl ?_
  refine SWp.go pok (by kernel_rfl) ?_
  refine PFun.call c0 ?_
  refine brP_split (fun h4 => ?_) (fun h4 => ?_)
  · have h4 : x.e.op ≠ 0 := by simpa using h4
    have hx : exT x.e = [32] ++ x.e.pr 1 := by unfold exT; rw [if_neg h4]
    rw [hx] at hr ⊢
    simp only [List.length_append] at hr
    refine PFun.call (put1_c [32] true (s ++ (ind o ++ head)) o (by simp only [List.length_append]; omega)) ?_
    refine PFun.call (pexpr_c _ x.e (Nat.le_refl _) (he h4) 1 true (s ++ (ind o ++ head) ++ [32]) o (by simp only [List.length_append]; omega)) ?_
    refine PFun.call (blocks_of f word x.blocks o hl hb h (s ++ (ind o ++ head) ++ [32] ++ x.e.pr 1) (by simp only [List.length_append]; omega)) ?_
    exact ⟨rfl, by simp only [List.append_assoc]; rfl⟩
  · have h4 : x.e.op = 0 := by simpa using h4
    have hx : exT x.e = [] := by unfold exT; rw [if_pos h4]
    rw [hx] at hr ⊢
    refine PFun.call (blocks_of f word x.blocks o hl hb h (s ++ (ind o ++ head)) (by simp only [List.length_append]; omega)) ?_
    exact ⟨rfl, by simp only [List.append_assoc, List.nil_append]; rfl⟩
end Go.Proofs.YtmflfcbebeikcaaGreatDoor.Q

namespace Go.Proofs.YtmflfcbebeikcaaGreatDoor.Q
open Go.RowKit
variable [Amb] [Pow]
def wordOf (kind : Int) : Str := if kind = 3 then [101, 108, 115, 101] else if kind = 6 then [111, 114] else []
/-- A statement's text; bt: its blocks' text. -/
def stK (kind : Int) (mon name : Str) (n : Int) (e : Ex) (o : Nat) (bt : Str) : Str :=
  if kind = 1 then ind o ++ ([115, 107, 105, 112, 59] ++ [10]) else
  if kind = 2 then (ind o ++ (mon ++ ([46] ++ (name ++ [32, 61, 32])))) ++ (e.pr 1 ++ [59, 10]) else
  if kind = 3 then (ind o ++ [105, 102]) ++ (exT e ++ bt) else
  if kind = 4 then (ind o ++ [119, 104, 105, 108, 101]) ++ (exT e ++ bt) else
  if kind = 5 then (ind o ++ [108, 111, 111, 112]) ++ (exT e ++ bt) else
  if kind = 6 then (ind o ++ [99, 104, 111, 111, 115, 101]) ++ (exT e ++ bt) else
  if kind = 7 then (ind o ++ ([115, 121, 110, 99, 32] ++ mon)) ++ (exT e ++ bt) else
  if kind = 8 then ind o ++ (([99, 97, 108, 108, 32] ++ (mon ++ ([46] ++ (name ++ [59])))) ++ [10]) else
  if kind = 9 then (ind o ++ ([119, 97, 105, 116, 32] ++ mon)) ++ ((if n > 0 then [32] ++ Lib.itoa n else []) ++ [59, 10]) else
  if kind = 10 then ind o ++ (([110, 111, 116, 105, 102, 121, 32] ++ (mon ++ [59])) ++ [10]) else
  if kind = 11 then ind o ++ (([110, 111, 116, 105, 102, 121, 97, 108, 108, 32] ++ (mon ++ [59])) ++ [10]) else []
mutual
def St.tx : St → Nat → Str
  | ⟨kind, mon, name, n, e, blocks, _⟩, o => stK kind mon name n e o (St.txB blocks (wordOf kind) o 0 ++ [10])
def St.txL : List St → Nat → Str
  | [], _ => []
  | a :: r, o => a.tx o ++ St.txL r o
def St.txB : List (List St) → Str → Nat → Nat → Str
  | [], _, _, _ => []
  | b :: r, word, o, i => (sepB word i ++ ([32, 123, 10] ++ (St.txL b (o + 1) ++ (ind o ++ [125])))) ++ St.txB r word o (i + 1)
end
theorem St.txL_cat : ∀ (l : List St) (o : Nat), St.txL l o = catS (fun s => s.tx o) l
  | [], o => by rw [St.txL, catS]
  | a :: r, o => by rw [St.txL, catS, St.txL_cat r o]
theorem St.txB_cat (word : Str) (o : Nat) : ∀ (l : List (List St)) (i : Nat), St.txB l word o i = catB St.tx word o i l
  | [], i => by rw [St.txB, catB]
  | b :: r, i => by rw [St.txB, catB, St.txB_cat word o r (i + 1), St.txL_cat]; rfl
/-- A statement that can be laid. -/
inductive StP : St → Prop
  | mk {kind : Int} {mon name : Str} {n : Int} {e : Ex} {blocks : List (List St)} {pl : Int} (hk : 1 ≤ kind ∧ kind ≤ 11) (hn : R64 n) (he2 : kind = 2 → PrOk e) (he : e.op ≠ 0 → PrOk e) (hb : blocks.length < 1073741824) (hl : ∀ b ∈ blocks, b.length < 1073741824) (k : ∀ b ∈ blocks, ∀ y ∈ b, StP y) : StP ⟨kind, mon, name, n, e, blocks, pl⟩
theorem lineP_c (l : List Str) (t : Str) (ht : l.flatten = t) (hne : l ≠ []) (hk : l.length < 1073741824) (s : Str) (o : Nat) (hl : s.length + (ind o ++ (t ++ [10])).length ≤ room) :
    PFun Tryz.prog 47 [.ptr 0 0, .d (.sl (strRows l))] (penO true s o) (.tup []) (penO true (s ++ (ind o ++ (t ++ [10]))) o) := by
  subst ht
  exact line_c l hne hk true s o (by simp only [List.length_append] at hl; exact hl)
theorem beginP_c (l : List Str) (t : Str) (ht : l.flatten = t) (hne : l ≠ []) (hk : l.length < 1073741824) (s : Str) (o : Nat) (hl : s.length + (ind o ++ t).length ≤ room) :
    PFun Tryz.prog 49 [.ptr 0 0, .d (.sl (strRows l))] (penO true s o) (.tup []) (penO true (s ++ (ind o ++ t)) o) := by
  subst ht
  exact begin_c l hne hk true s o (by simp only [List.length_append] at hl; exact hl)
theorem layst_c {y : St} (h : StP y) : ∀ o, LaysSt St.tx y o := by
  induction h with
  | @mk kind mon name n e blocks pl hk hn he2 he hb hl k ih =>
    intro o s hr
    have hR : room = 140737488355328 := rfl
    have hh : ∀ head word, s.length + (headedT St.tx e blocks head word o).length ≤ room → PFun Tryz.prog 126 [.ptr 0 0, (St.mk kind mon name n e blocks pl).v, sv' head, sv' word] (penO true s o) (.tup []) (penO true (s ++ headedT St.tx e blocks head word o) o) :=
      fun head word hr => headed_of St.tx ⟨kind, mon, name, n, e, blocks, pl⟩ head word o he hb hl (fun b hb' z hz => ih b hb' z hz (o + 1)) s hr
    have hbt : ∀ word, St.txB blocks word o 0 ++ [10] = blocksT St.tx word blocks o := fun word => by rw [St.txB_cat]; rfl
    rw [St.tx, hbt] at hr ⊢
    refine fn_sem pok 98 2 Tryz.func86 (by kernel_rfl) rfl rfl rfl rfl ?_
    refine SWp.go pok (by kernel_rfl) ?_
    have hkk : kind = 1 ∨ kind = 2 ∨ kind = 3 ∨ kind = 4 ∨ kind = 5 ∨ kind = 6 ∨ kind = 7 ∨ kind = 8 ∨ kind = 9 ∨ kind = 10 ∨ kind = 11 := by omega
    rcases hkk with rfl | rfl | rfl | rfl | rfl | rfl | rfl | rfl | rfl | rfl | rfl
    · refine PFun.call (lineP_c [[115, 107, 105, 112, 59]] _ rfl (by simp) (by simp) s o hr) ?_
      exact ⟨rfl, rfl⟩
    · have hr2 : s.length + ((ind o ++ (mon ++ ([46] ++ (name ++ [32, 61, 32])))) ++ (e.pr 1 ++ [59, 10])).length ≤ room := hr
      simp only [List.length_append] at hr2
      have h2 : ([59, 10] : Str).length = 2 := rfl
      refine PFun.call (beginP_c [mon, [46], name, [32, 61, 32]] (mon ++ ([46] ++ (name ++ [32, 61, 32]))) (by simp) (by simp) (by simp) s o (by simp only [List.length_append]; omega)) ?_
      refine PFun.call (pexpr_c _ e (Nat.le_refl _) (he2 rfl) 1 true _ o (by simp only [List.length_append]; omega)) ?_
      refine PFun.call (put1_c [59, 10] true _ o (by simp only [List.length_append]; omega)) ?_
      refine ⟨rfl, ?_⟩
      show penO true _ o = penO true (s ++ ((ind o ++ (mon ++ ([46] ++ (name ++ [32, 61, 32])))) ++ (e.pr 1 ++ [59, 10]))) o
      simp only [List.append_assoc]
    · refine PFun.call (hh [105, 102] [101, 108, 115, 101] hr) ?_
      exact ⟨rfl, rfl⟩
    · refine PFun.call (hh [119, 104, 105, 108, 101] [] hr) ?_
      exact ⟨rfl, rfl⟩
    · refine PFun.call (hh [108, 111, 111, 112] [] hr) ?_
      exact ⟨rfl, rfl⟩
    · refine PFun.call (hh [99, 104, 111, 111, 115, 101] [111, 114] hr) ?_
      exact ⟨rfl, rfl⟩
    · have hr2 : s.length + ((ind o ++ ([115, 121, 110, 99, 32] ++ mon)) ++ (exT e ++ blocksT St.tx [] blocks o)).length ≤ room := hr
      have h5 : ([115, 121, 110, 99, 32] : Str).length = 5 := rfl
      simp only [List.length_append] at hr2
      refine ⟨by show 5 + mon.length ≤ 4611686018427387904; omega, ?_⟩
      refine PFun.call (hh ([115, 121, 110, 99, 32] ++ mon) [] hr) ?_
      exact ⟨rfl, rfl⟩
    · refine PFun.call (lineP_c [[99, 97, 108, 108, 32], mon, [46], name, [59]] ([99, 97, 108, 108, 32] ++ (mon ++ ([46] ++ (name ++ [59])))) (by simp) (by simp) (by simp) s o hr) ?_
      exact ⟨rfl, rfl⟩
    · have hr2 : s.length + ((ind o ++ ([119, 97, 105, 116, 32] ++ mon)) ++ ((if n > 0 then [32] ++ Lib.itoa n else []) ++ [59, 10])).length ≤ room := hr
      simp only [List.length_append] at hr2
      have h2 : ([59, 10] : Str).length = 2 := rfl
      refine PFun.call (beginP_c [[119, 97, 105, 116, 32], mon] ([119, 97, 105, 116, 32] ++ mon) (by simp) (by simp) (by simp) s o (by simp only [List.length_append]; omega)) ?_
      refine brP_split (fun h4 => ?_) (fun h4 => ?_)
      · have h4 : n > 0 := by simpa using h4
        rw [if_pos h4] at hr2
        simp only [List.length_append] at hr2
        refine PFun.call (put1_c [32] true _ o (by simp only [List.length_append]; omega)) ?_
        refine PFun.call (number_c n hn true _ o (by simp only [List.length_append]; omega)) ?_
        refine PFun.call (put1_c [59, 10] true _ o (by simp only [List.length_append]; omega)) ?_
        refine ⟨rfl, ?_⟩
        show penO true _ o = penO true (s ++ ((ind o ++ ([119, 97, 105, 116, 32] ++ mon)) ++ ((if n > 0 then [32] ++ Lib.itoa n else []) ++ [59, 10]))) o
        rw [if_pos h4]
        simp only [List.append_assoc]
      · have h4 : ¬ n > 0 := by simpa using h4
        rw [if_neg h4] at hr2
        refine PFun.call (put1_c [59, 10] true _ o (by simp only [List.length_nil] at hr2; simp only [List.length_append]; omega)) ?_
        refine ⟨rfl, ?_⟩
        show penO true _ o = penO true (s ++ ((ind o ++ ([119, 97, 105, 116, 32] ++ mon)) ++ ((if n > 0 then [32] ++ Lib.itoa n else []) ++ [59, 10]))) o
        rw [if_neg h4]
        simp only [List.append_assoc, List.nil_append]
    · refine PFun.call (lineP_c [[110, 111, 116, 105, 102, 121, 32], mon, [59]] ([110, 111, 116, 105, 102, 121, 32] ++ (mon ++ [59])) (by simp) (by simp) (by simp) s o hr) ?_
      exact ⟨rfl, rfl⟩
    · refine PFun.call (lineP_c [[110, 111, 116, 105, 102, 121, 97, 108, 108, 32], mon, [59]] ([110, 111, 116, 105, 102, 121, 97, 108, 108, 32] ++ (mon ++ [59])) (by simp) (by simp) (by simp) s o hr) ?_
      exact ⟨rfl, rfl⟩
end Go.Proofs.YtmflfcbebeikcaaGreatDoor.Q

namespace Go.Proofs.YtmflfcbebeikcaaGreatDoor.Q
open Go.RowKit
variable [Amb] [Pow]
theorem beginU_c (l : List Str) (t : Str) (ht : l.flatten = t) (hne : l ≠ []) (hk : l.length < 1073741824) (u : Bool) (s : Str) (o : Nat) (hl : s.length + (ind o ++ t).length ≤ room) :
    PFun Tryz.prog 49 [.ptr 0 0, .d (.sl (strRows l))] (penO u s o) (.tup []) (penO true (s ++ (ind o ++ t)) o) := by
  subst ht
  exact begin_c l hne hk u s o (by simp only [List.length_append] at hl; exact hl)
def roT (r : Ro) (o : Nat) : Str := (ind o ++ ([116, 104, 114, 101, 97, 100, 32] ++ (r.name ++ [32]))) ++ ((if r.star = true then [42] else Lib.itoa r.count) ++ (blockT St.tx r.body o ++ [10]))
structure RoP (r : Ro) : Prop where
  count : R64 r.count
  len : r.body.length < 1073741824
  body : ∀ y ∈ r.body, StP y
theorem layro_c (r : Ro) (h : RoP r) (u : Bool) (s : Str) (o : Nat) (hr : s.length + (roT r o).length ≤ room) :
    PFun Tryz.prog 23 [.ptr 0 0, r.v] (penO u s o) (.tup []) (penO true (s ++ roT r o) o) := by
  have hR : room = 140737488355328 := rfl
  have h1 : ([10] : Str).length = 1 := rfl
  unfold roT at hr ⊢
  simp only [List.length_append] at hr
  refine fn_sem pok 25 2 Tryz.func23 (by kernel_rfl) rfl rfl rfl rfl ?_
  refine SWp.go pok (by kernel_rfl) ?_
  refine PFun.call (beginU_c [[116, 104, 114, 101, 97, 100, 32], r.name, [32]] ([116, 104, 114, 101, 97, 100, 32] ++ (r.name ++ [32])) (by simp) (by simp) (by simp) u s o (by simp only [List.length_append]; omega)) ?_
  cases hst : r.star with
  | true =>
    rw [hst, if_pos rfl] at hr
    rw [if_pos rfl]
    refine PFun.call (put1_c [42] true _ o (by simp only [List.length_append]; omega)) ?_
    refine PFun.call (layblk_of St.tx r.body o h.len (fun y hy => layst_c (h.body y hy) (o + 1)) true _ (by simp only [List.length_append]; omega)) ?_
    refine PFun.call (put1_c [10] true _ o (by simp only [List.length_append]; omega)) ?_
    exact ⟨rfl, by simp only [List.append_assoc]; rfl⟩
  | false =>
    rw [hst, if_neg (by simp)] at hr
    rw [if_neg (by simp)]
    refine PFun.call (number_c r.count h.count true _ o (by simp only [List.length_append]; omega)) ?_
    refine PFun.call (layblk_of St.tx r.body o h.len (fun y hy => layst_c (h.body y hy) (o + 1)) true _ (by simp only [List.length_append]; omega)) ?_
    refine PFun.call (put1_c [10] true _ o (by simp only [List.length_append]; omega)) ?_
    exact ⟨rfl, by simp only [List.append_assoc]; rfl⟩
def vrK (v : Vr) : Str := if v.type = 1 then [98, 111, 111, 108, 32, 61, 32] ++ boolS (v.init == 1) else if v.type = 2 then [105, 110, 116, 32, 61, 32] ++ Lib.itoa v.init else Lib.itoa v.lo ++ ([46, 46] ++ (Lib.itoa v.hi ++ ([32, 61, 32] ++ Lib.itoa v.init)))
def vrT (v : Vr) (o : Nat) : Str := (ind o ++ ([118, 97, 114, 32] ++ (v.name ++ [32, 58, 32]))) ++ (vrK v ++ [59, 10])
structure VrP (v : Vr) : Prop where
  lo : R64 v.lo
  hi : R64 v.hi
  init : R64 v.init
theorem variable_c (v : Vr) (h : VrP v) (u : Bool) (s : Str) (o : Nat) (hr : s.length + (vrT v o).length ≤ room) :
    PFun Tryz.prog 48 [.ptr 0 0, v.v] (penO u s o) (.tup []) (penO true (s ++ vrT v o) o) := by
  have hR : room = 140737488355328 := rfl
  unfold vrT at hr ⊢
  simp only [List.length_append] at hr
  refine fn_sem pok 50 2 Tryz.func48 (by kernel_rfl) rfl rfl rfl rfl ?_
  refine SWp.go pok (by kernel_rfl) ?_
  refine PFun.call (beginU_c [[118, 97, 114, 32], v.name, [32, 58, 32]] ([118, 97, 114, 32] ++ (v.name ++ [32, 58, 32])) (by simp) (by simp) (by simp) u s o (by simp only [List.length_append]; omega)) ?_
  refine brP_split (fun h1 => ?_) (fun h1 => ?_)
  · have h1 : v.type = 1 := by simpa using h1
    have e : vrK v = [98, 111, 111, 108, 32, 61, 32] ++ boolS (v.init == 1) := by unfold vrK; rw [if_pos h1]
    rw [e] at hr ⊢
    simp only [List.length_append] at hr
    by_cases h2 : (v.init == 1) = true
    case pos =>
      rw [h2] at hr ⊢
      refine brP_true h2 ?_
      refine PFun.call (formatBool_c true) ?_
      refine PFun.call (put2_c [98, 111, 111, 108, 32, 61, 32] (boolS true) true _ o (by simp only [List.length_append]; omega)) ?_
      refine PFun.call (put1_c [59, 10] true _ o (by simp only [List.length_append]; omega)) ?_
      exact ⟨rfl, by simp only [List.append_assoc]; rfl⟩
    case neg =>
      rw [Bool.not_eq_true] at h2
      rw [h2] at hr ⊢
      refine brP_false h2 ?_
      refine PFun.call (formatBool_c false) ?_
      refine PFun.call (put2_c [98, 111, 111, 108, 32, 61, 32] (boolS false) true _ o (by simp only [List.length_append]; omega)) ?_
      refine PFun.call (put1_c [59, 10] true _ o (by simp only [List.length_append]; omega)) ?_
      exact ⟨rfl, by simp only [List.append_assoc]; rfl⟩
  have h1 : ¬ v.type = 1 := by simpa using h1
  refine brP_split (fun h2 => ?_) (fun h2 => ?_)
  · have h2 : v.type = 2 := by simpa using h2
    have e : vrK v = [105, 110, 116, 32, 61, 32] ++ Lib.itoa v.init := by unfold vrK; rw [if_neg h1, if_pos h2]
    rw [e] at hr ⊢
    simp only [List.length_append] at hr
    refine PFun.call (put1_c [105, 110, 116, 32, 61, 32] true _ o (by simp only [List.length_append]; omega)) ?_
    refine PFun.call (number_c v.init h.init true _ o (by simp only [List.length_append]; omega)) ?_
    refine PFun.call (put1_c [59, 10] true _ o (by simp only [List.length_append]; omega)) ?_
    exact ⟨rfl, by simp only [List.append_assoc]; rfl⟩
  have h2 : ¬ v.type = 2 := by simpa using h2
  have e : vrK v = Lib.itoa v.lo ++ ([46, 46] ++ (Lib.itoa v.hi ++ ([32, 61, 32] ++ Lib.itoa v.init))) := by unfold vrK; rw [if_neg h1, if_neg h2]
  rw [e] at hr ⊢
  simp only [List.length_append] at hr
  refine PFun.call (number_c v.lo h.lo true _ o (by simp only [List.length_append]; omega)) ?_
  refine PFun.call (put1_c [46, 46] true _ o (by simp only [List.length_append]; omega)) ?_
  refine PFun.call (number_c v.hi h.hi true _ o (by simp only [List.length_append]; omega)) ?_
  refine PFun.call (put1_c [32, 61, 32] true _ o (by simp only [List.length_append]; omega)) ?_
  refine PFun.call (number_c v.init h.init true _ o (by simp only [List.length_append]; omega)) ?_
  refine PFun.call (put1_c [59, 10] true _ o (by simp only [List.length_append]; omega)) ?_
  exact ⟨rfl, by simp only [List.append_assoc]; rfl⟩
end Go.Proofs.YtmflfcbebeikcaaGreatDoor.Q

namespace Go.Proofs.YtmflfcbebeikcaaGreatDoor.Q
open Go.RowKit
variable [Amb] [Pow]
theorem lineU_c (l : List Str) (t : Str) (ht : l.flatten = t) (hne : l ≠ []) (hk : l.length < 1073741824) (u : Bool) (s : Str) (o : Nat) (hl : s.length + (ind o ++ (t ++ [10])).length ≤ room) :
    PFun Tryz.prog 47 [.ptr 0 0, .d (.sl (strRows l))] (penO u s o) (.tup []) (penO true (s ++ (ind o ++ (t ++ [10]))) o) := by
  subst ht
  exact line_c l hne hk u s o (by simp only [List.length_append] at hl; exact hl)
def catG {α : Type} (f : α → Str) : List α → Str
  | [] => []
  | a :: r => f a ++ catG f r
theorem catG_take {α : Type} (f : α → Str) : ∀ {l : List α} {k : Nat} (h : k < l.length), catG f (l.take (k + 1)) = catG f (l.take k) ++ f l[k]
  | a :: r, 0, _ => by simp [catG]
  | a :: r, k + 1, h => by
    rw [List.take_succ_cons, List.take_succ_cons, catG, catG, catG_take f (by simpa using h), List.append_assoc]; rfl
theorem catG_le {α : Type} (f : α → Str) : ∀ (l : List α) (k : Nat), (catG f (l.take k)).length ≤ (catG f l).length
  | [], k => by simp
  | a :: r, 0 => by simp [catG]
  | a :: r, k + 1 => by
    rw [List.take_succ_cons, catG, catG, List.length_append, List.length_append]
    have := catG_le f r k
    omega
def mtT (f : Mt) (o : Nat) : Str := (ind o ++ ([109, 101, 116, 104, 111, 100, 32] ++ f.name)) ++ (blockT St.tx f.body o ++ [10])
structure MtP (f : Mt) : Prop where
  len : f.body.length < 1073741824
  body : ∀ y ∈ f.body, StP y
structure MoP (m : Mo) : Prop where
  vlen : m.vars.length < 1073741824
  mlen : m.methods.length < 1073741824
  vars : ∀ v ∈ m.vars, VrP v
  meths : ∀ f ∈ m.methods, MtP f
def moH (m : Mo) (o : Nat) : Str := ind o ++ (([109, 111, 110, 105, 116, 111, 114, 32] ++ (m.name ++ [32, 123])) ++ [10])
def moT (m : Mo) (o : Nat) : Str := moH m o ++ (catG (fun v => vrT v (o + 1)) m.vars ++ (catG (fun f => mtT f (o + 1)) m.methods ++ (ind o ++ ([125] ++ [10]))))
theorem monitor_c (m : Mo) (h : MoP m) (u : Bool) (s : Str) (o : Nat) (hr : s.length + (moT m o).length ≤ room) :
    PFun Tryz.prog 22 [.ptr 0 0, m.v] (penO u s o) (.tup []) (penO true (s ++ moT m o) o) := by
  have hR : room = 140737488355328 := rfl
  have hio := ind_len o
  have h1 : ([125] : Str).length = 1 := rfl
  have h2 : ([10] : Str).length = 1 := rfl
  have hvl := h.vlen
  have hml := h.mlen
  unfold moT at hr ⊢
  simp only [List.length_append] at hr
  have cl : PFun Tryz.prog 47 [.ptr 0 0, .d (.sl [[.str [109, 111, 110, 105, 116, 111, 114, 32]], [.str m.name], [.str [32, 123]]])] (penO u s o) (.tup []) (penO true (s ++ moH m o) o) :=
    lineU_c [[109, 111, 110, 105, 116, 111, 114, 32], m.name, [32, 123]] ([109, 111, 110, 105, 116, 111, 114, 32] ++ (m.name ++ [32, 123])) (by simp) (by simp) (by simp) u s o (by show s.length + (moH m o).length ≤ room; omega)
  have hho : 2 * o ≤ (moH m o).length := by unfold moH; rw [List.length_append, hio]; omega
  generalize moH m o = A at *
  refine fn_sem pok 61 2 Tryz.func22 (by kernel_rfl) rfl rfl rfl rfl ?_
  refine SWp.go pok (by kernel_rfl) ?_
  refine PFun.call cl ?_
  refine SWp.loop (fun k : Nat => k ≤ m.vars.length) (fun k => ([(0, .ptr 0 0), (3, .ptr 2 0), (21, .d (.sl (m.vars.map Vr.c))), (22, iv m.vars.length), (23, iv k)], penO true (s ++ (A ++ catG (fun v => vrT v (o + 1)) (m.vars.take k))) (o + 1 : Nat) ++ [.box [sv' m.name, .d (.sl (m.vars.map Vr.c)), .d (.sl (m.methods.map Mt.c)), iv m.pl]])) (fun k => m.vars.length - k) 0 (Nat.zero_le _) (.inr ⟨[0, 1, 2], ⟨rfl, rfl⟩, by simp only [List.take_zero, catG, List.append_nil, penO]; rw [wrap_nat o (by omega)]; rfl, rfl, rfl, rfl, sint (by rw [List.length_map]), rfl, trivial⟩) (fun k hk => ?_)
  refine SWp.go pok (by kernel_rfl) ?_
  refine brP_split (fun h4 => ?_) (fun h4 => ?_)
  · have hlt : k < m.vars.length := by simpa using h4
    have e := catG_take (fun v => vrT v (o + 1)) hlt
    have hle := catG_le (fun v => vrT v (o + 1)) m.vars (k + 1)
    rw [e, List.length_append] at hle
    refine Vr.inRow hlt ?_
    refine PFun.call (variable_c m.vars[k] (h.vars _ (List.getElem_mem hlt)) true (s ++ (A ++ catG (fun v => vrT v (o + 1)) (m.vars.take k))) (o + 1) (by simp only [List.length_append]; omega)) ?_
    refine ⟨k + 1, hlt, by omega, .inr ⟨[0, 1, 2], ⟨rfl, rfl⟩, ?_, rfl, rfl, rfl, rfl, sint (wrap_nat k (by omega)), trivial⟩⟩
    rw [e]
    simp only [penO, List.append_assoc]
    rfl
  have hge : k = m.vars.length := by simp at h4; omega
  subst hge
  rw [List.take_length]
  generalize hB : catG (fun v => vrT v (o + 1)) m.vars = B at *
  refine SWp.loop (fun k : Nat => k ≤ m.methods.length) (fun k => ([(0, .ptr 0 0), (32, .d (.sl (m.methods.map Mt.c))), (33, iv m.methods.length), (34, iv k)], penO true (s ++ (A ++ (B ++ catG (fun f => mtT f (o + 1)) (m.methods.take k)))) (o + 1 : Nat))) (fun k => m.methods.length - k) 0 (Nat.zero_le _) (.inr ⟨[0, 1], ⟨rfl, rfl⟩, by simp only [List.take_zero, catG, List.append_nil, penO]; rfl, rfl, rfl, sint (by rw [List.length_map]), rfl, trivial⟩) (fun k hk2 => ?_)
  refine SWp.go pok (by kernel_rfl) ?_
  refine brP_split (fun h5 => ?_) (fun h5 => ?_)
  · have hlt : k < m.methods.length := by simpa using h5
    have e := catG_take (fun f => mtT f (o + 1)) hlt
    have hle := catG_le (fun f => mtT f (o + 1)) m.methods (k + 1)
    have hp := h.meths _ (List.getElem_mem hlt)
    rw [e, List.length_append] at hle
    have em : (mtT m.methods[k] (o + 1)).length = (ind (o + 1) ++ ([109, 101, 116, 104, 111, 100, 32] ++ m.methods[k].name)).length + ((blockT St.tx m.methods[k].body (o + 1)).length + 1) := by simp only [mtT, List.length_append]; rfl
    refine Mt.inRow hlt ?_
    refine PFun.call (beginU_c [[109, 101, 116, 104, 111, 100, 32], m.methods[k].name] ([109, 101, 116, 104, 111, 100, 32] ++ m.methods[k].name) (by simp) (by simp) (by simp) true _ (o + 1) (by rw [List.length_append, List.length_append, List.length_append]; omega)) ?_
    refine PFun.call (layblk_of St.tx m.methods[k].body (o + 1) hp.len (fun y hy => layst_c (hp.body y hy) (o + 1 + 1)) true _ (by rw [List.length_append, List.length_append, List.length_append, List.length_append]; omega)) ?_
    refine PFun.call (put1_c [10] true _ (o + 1 : Nat) (by rw [List.length_append, List.length_append, List.length_append, List.length_append, List.length_append]; omega)) ?_
    refine ⟨k + 1, hlt, by omega, .inr ⟨[0, 1], ⟨rfl, rfl⟩, ?_, rfl, rfl, rfl, sint (wrap_nat k (by omega)), trivial⟩⟩
    rw [e]
    simp only [penO, mtT, List.append_assoc]
    rfl
  have hge : k = m.methods.length := by simp at h5; omega
  subst hge
  rw [List.take_length]
  generalize hC : catG (fun f => mtT f (o + 1)) m.methods = C at *
  have hw : IntKind.i64.wrap (((o + 1 : Nat) : Int) - 1) = (o : Int) := by rw [wrap_in (by unfold R64; omega)]; omega
  have c := lineU_c [[125]] [125] (by simp) (by simp) (by simp) true (s ++ (A ++ (B ++ C))) o (by simp only [List.length_append]; omega)
  rw [← hw] at c
  refine PFun.call c ?_
  exact ⟨rfl, by rw [hw]; simp only [List.append_assoc]; rfl⟩
end Go.Proofs.YtmflfcbebeikcaaGreatDoor.Q

namespace Go.Proofs.YtmflfcbebeikcaaGreatDoor.Q
open Go.RowKit
variable [Amb] [Pow]
mutual
def St.cn : St → Nat
  | ⟨_, _, _, _, _, blocks, _⟩ => 1 + St.cnB blocks
def St.cnL : List St → Nat
  | [] => 0
  | a :: r => a.cn + St.cnL r
def St.cnB : List (List St) → Nat
  | [] => 0
  | b :: r => St.cnL b + St.cnB r
end
mutual
def St.nsS : St → Int → Int → Int
  | ⟨_, _, _, _, e, blocks, _⟩, o, n => St.nsB blocks o (if e.op = 0 then n else max n (o + e.ns 1))
def St.nsL : List St → Int → Int → Int
  | [], _, n => n
  | a :: r, o, n => St.nsL r o (a.nsS o n)
def St.nsB : List (List St) → Int → Int → Int
  | [], _, n => n
  | b :: r, o, n => St.nsB r o (max n (St.nsL b (o + 1) (o + 1)))
end
theorem St.cnL_mem : ∀ {l : List St} {y : St}, y ∈ l → y.cn ≤ St.cnL l
  | a :: r, y, h => by
    rw [St.cnL]
    rcases List.mem_cons.1 h with rfl | h
    · omega
    · have := St.cnL_mem h; omega
theorem St.cnB_mem : ∀ {l : List (List St)} {b : List St}, b ∈ l → St.cnL b ≤ St.cnB l
  | a :: r, b, h => by
    rw [St.cnB]
    rcases List.mem_cons.1 h with rfl | h
    · omega
    · have := St.cnB_mem h; omega
/-- A statement whose depth can be told. -/
inductive StN : St → Prop
  | mk {kind : Int} {mon name : Str} {n : Int} {e : Ex} {blocks : List (List St)} {pl : Int} (he : e.op ≠ 0 → PrOk e ∧ e.pre.length < 1073741824) (hb : blocks.length < 1073741824) (hl : ∀ b ∈ blocks, b.length < 1073741824) (k : ∀ b ∈ blocks, ∀ y ∈ b, StN y) : StN ⟨kind, mon, name, n, e, blocks, pl⟩
theorem max_eq (a b : Int) : maxI a [b] = max a b := by
  simp only [maxI]
  split <;> omega
theorem nestStmts_c (N : Nat) : ∀ (l : List St) (o : Int), St.cnL l ≤ N → 0 ≤ o → o + St.cnL l ≤ 1099511627776 → l.length < 1073741824 → (∀ y ∈ l, StN y) → PFun Tryz.prog 31 [.d (.sl (l.map St.c)), iv o] [] (iv (St.nsL l o o)) [] := by
  induction N with
  | zero =>
    intro l o hN h0 ho hl hy
    have : l = [] := by
      cases l with
      | nil => rfl
      | cons a r => rw [St.cnL] at hN; cases a; rw [St.cn] at hN; omega
    subst this
    refine fn_sem pok 44 0 Tryz.func31 (by kernel_rfl) rfl rfl rfl rfl ?_
    refine SWp.go pok (by kernel_rfl) ?_
    refine SWp.loop (fun k : Nat => k = 0) (fun k => ([(5, iv o), (11, .d (.sl [])), (12, iv 0), (13, iv 0)], [])) (fun k => 0) 0 rfl (Le.same ⟨rfl, rfl, rfl, rfl, trivial⟩) (fun k hk => ?_)
    refine SWp.go pok (by kernel_rfl) ?_
    exact fin1 rfl
  | succ N ih =>
    intro l o hN h0 ho hl hy
    refine fn_sem pok 44 0 Tryz.func31 (by kernel_rfl) rfl rfl rfl rfl ?_
    refine SWp.go pok (by kernel_rfl) ?_
    refine SWp.loop (fun x : Nat × Int => x.1 ≤ l.length ∧ St.nsL (l.drop x.1) o x.2 = St.nsL l o o) (fun x => ([(1, iv o), (5, iv x.2), (11, .d (.sl (l.map St.c))), (12, iv l.length), (13, iv x.1)], [])) (fun x => l.length - x.1) (0, o) ⟨Nat.zero_le _, rfl⟩ (Le.same ⟨rfl, rfl, rfl, sint (by rw [List.length_map]), rfl, trivial⟩) (fun x hx => ?_)
    obtain ⟨k, n⟩ := x
    obtain ⟨hk, hn⟩ := hx
    dsimp only at hk hn
    refine SWp.go pok (by kernel_rfl) ?_
    refine brP_split (fun h4 => ?_) (fun h4 => ?_)
    case refine_2 =>
      have hge : k = l.length := by simp at h4; omega
      subst hge
      rw [List.drop_of_length_le (Nat.le_refl _), St.nsL] at hn
      exact fin1 (dint hn)
    have hlt : k < l.length := by simpa using h4
    have hm := List.getElem_mem hlt
    have hat : St.nsL (l.drop k) o n = St.nsL (l.drop (k + 1)) o (l[k].nsS o n) := by rw [List.drop_eq_getElem_cons hlt, St.nsL]
    have hcn := St.cnL_mem hm
    refine St.inRow hlt ?_
    have hsn := hy _ hm
    generalize hs : l[k] = y at hat hcn hsn ⊢
    cases hsn with
    | @mk kind mon name nn e blocks pl he hb hbl hk2 =>
    rw [St.nsS] at hat
    rw [St.cn] at hcn
    refine brP_split (fun h5 => ?_) (fun h5 => ?_)
    · have h5 : e.op ≠ 0 := by simpa using h5
      obtain ⟨hp, hpl⟩ := he h5
      have hnest := nest_c _ e (Nat.le_refl _) hpl hp 1
      unfold Nests at hnest
      rw [if_neg h5] at hat
      have hbd := ns_bound _ e (Nat.le_refl _) hp
      have hb1 : 0 ≤ e.ns 1 ∧ e.ns 1 ≤ 4294967296 := by unfold Ex.ns atN; split <;> dsimp only <;> omega
      have hw : maxI n [IntKind.i64.wrap (o + e.ns 1)] = max n (o + e.ns 1) := by rw [max_eq, wrap_in (by unfold R64; omega)]
      refine PFun.call hnest ?_
      generalize max n (o + e.ns 1) = n1 at hat hw
      refine SWp.loop (fun x : Nat × Int => x.1 ≤ blocks.length ∧ St.nsB (blocks.drop x.1) o x.2 = St.nsB blocks o n1) (fun x => ([(1, iv o), (5, iv x.2), (11, .d (.sl (l.map St.c))), (12, iv l.length), (13, iv k), (29, .d (.sl (blocks.map blk))), (30, iv blocks.length), (31, iv x.1)], [])) (fun x => blocks.length - x.1) (0, n1) ⟨Nat.zero_le _, rfl⟩ (.inr ⟨[], ⟨rfl, rfl⟩, rfl, rfl, sint hw, rfl, rfl, rfl, rfl, sint (by rw [List.length_map]), rfl, trivial⟩) (fun x hx => ?_)
      obtain ⟨j, n2⟩ := x
      obtain ⟨hj, hn2⟩ := hx
      dsimp only at hj hn2
      refine SWp.go pok (by kernel_rfl) ?_
      refine brP_split (fun h6 => ?_) (fun h6 => ?_)
      · have hltj : j < blocks.length := by simpa using h6
        have hmj := List.getElem_mem hltj
        have hatj : St.nsB (blocks.drop j) o n2 = St.nsB (blocks.drop (j + 1)) o (max n2 (St.nsL blocks[j] (o + 1) (o + 1))) := by rw [List.drop_eq_getElem_cons hltj, St.nsB]
        have hcb := St.cnB_mem hmj
        have hwo : IntKind.i64.wrap (o + 1) = o + 1 := wrap_in (by unfold R64; omega)
        have c := ih blocks[j] (o + 1) (by omega) (by omega) (by omega) (hbl _ hmj) (hk2 _ hmj)
        rw [← hwo] at c
        refine Bl.inRow hltj ?_
        refine PFun.call c ?_
        exact ⟨(j + 1, max n2 (St.nsL blocks[j] (o + 1) (o + 1))), ⟨hltj, by rw [← hn2, hatj]⟩, by show blocks.length - (j + 1) < blocks.length - j; omega, .inr ⟨[], ⟨rfl, rfl⟩, rfl, rfl, sint (by rw [max_eq, hwo]), rfl, rfl, rfl, rfl, rfl, sint (wrap_nat j (by omega)), trivial⟩⟩
      · have hgj : j = blocks.length := by simp at h6; omega
        subst hgj
        rw [List.drop_of_length_le (Nat.le_refl _), St.nsB] at hn2
        exact ⟨(k + 1, n2), ⟨hlt, by rw [← hn, hat, ← hn2]⟩, by show l.length - (k + 1) < l.length - k; omega, .inr ⟨[], ⟨rfl, rfl⟩, rfl, rfl, rfl, rfl, rfl, sint (wrap_nat k (by omega)), trivial⟩⟩
    · have h5 : e.op = 0 := by simpa using h5
      rw [if_pos h5] at hat
      refine SWp.loop (fun x : Nat × Int => x.1 ≤ blocks.length ∧ St.nsB (blocks.drop x.1) o x.2 = St.nsB blocks o n) (fun x => ([(1, iv o), (5, iv x.2), (11, .d (.sl (l.map St.c))), (12, iv l.length), (13, iv k), (29, .d (.sl (blocks.map blk))), (30, iv blocks.length), (31, iv x.1)], [])) (fun x => blocks.length - x.1) (0, n) ⟨Nat.zero_le _, rfl⟩ (.inr ⟨[], ⟨rfl, rfl⟩, rfl, rfl, rfl, rfl, rfl, rfl, rfl, sint (by rw [List.length_map]), rfl, trivial⟩) (fun x hx => ?_)
      obtain ⟨j, n2⟩ := x
      obtain ⟨hj, hn2⟩ := hx
      dsimp only at hj hn2
      refine SWp.go pok (by kernel_rfl) ?_
      refine brP_split (fun h6 => ?_) (fun h6 => ?_)
      · have hltj : j < blocks.length := by simpa using h6
        have hmj := List.getElem_mem hltj
        have hatj : St.nsB (blocks.drop j) o n2 = St.nsB (blocks.drop (j + 1)) o (max n2 (St.nsL blocks[j] (o + 1) (o + 1))) := by rw [List.drop_eq_getElem_cons hltj, St.nsB]
        have hcb := St.cnB_mem hmj
        have hwo : IntKind.i64.wrap (o + 1) = o + 1 := wrap_in (by unfold R64; omega)
        have c := ih blocks[j] (o + 1) (by omega) (by omega) (by omega) (hbl _ hmj) (hk2 _ hmj)
        rw [← hwo] at c
        refine Bl.inRow hltj ?_
        refine PFun.call c ?_
        exact ⟨(j + 1, max n2 (St.nsL blocks[j] (o + 1) (o + 1))), ⟨hltj, by rw [← hn2, hatj]⟩, by show blocks.length - (j + 1) < blocks.length - j; omega, .inr ⟨[], ⟨rfl, rfl⟩, rfl, rfl, sint (by rw [max_eq, hwo]), rfl, rfl, rfl, rfl, rfl, sint (wrap_nat j (by omega)), trivial⟩⟩
      · have hgj : j = blocks.length := by simp at h6; omega
        subst hgj
        rw [List.drop_of_length_le (Nat.le_refl _), St.nsB] at hn2
        exact ⟨(k + 1, n2), ⟨hlt, by rw [← hn, hat, ← hn2]⟩, by show l.length - (k + 1) < l.length - k; omega, .inr ⟨[], ⟨rfl, rfl⟩, rfl, rfl, rfl, rfl, rfl, sint (wrap_nat k (by omega)), trivial⟩⟩
end Go.Proofs.YtmflfcbebeikcaaGreatDoor.Q

namespace Go.Proofs.YtmflfcbebeikcaaGreatDoor.Q
open Go.RowKit
variable [Amb] [Pow]
def nsMts : List Mt → Int → Int
  | [], n => n
  | f :: r, n => nsMts r (max n (St.nsL f.body 2 2))
def nsMos : List Mo → Int → Int
  | [], n => n
  | m :: r, n => nsMos r (nsMts m.methods (max n 1))
def nsRos : List Ro → Int → Int
  | [], n => n
  | r :: l, n => nsRos l (max n (St.nsL r.body 1 1))
def nestPg (p : Pg) : Int := if checkP p ≠ 0 then 0 else nsRos p.roles (nsMos p.mons 0)
structure BN (l : List St) : Prop where
  len : l.length < 1073741824
  cn : St.cnL l < 1073741824
  fit : ∀ y ∈ l, StN y
structure PgN (p : Pg) : Prop where
  mlen : p.mons.length < 1073741824
  rlen : p.roles.length < 1073741824
  flen : ∀ m ∈ p.mons, m.methods.length < 1073741824
  meth : ∀ m ∈ p.mons, ∀ f ∈ m.methods, BN f.body
  role : ∀ r ∈ p.roles, BN r.body
theorem nest_of {l : List St} (h : BN l) (o : Int) (h0 : 0 ≤ o) (h1 : o ≤ 10) : PFun Tryz.prog 31 [.d (.sl (l.map St.c)), iv o] [] (iv (St.nsL l o o)) [] :=
  nestStmts_c _ l o (Nat.le_refl _) h0 (by have := h.cn; omega) h.len h.fit
theorem nestPg_c (p : Pg) (hf : PgF p) (hn : checkP p = 0 → PgN p) : PFun Tryz.prog 10 [p.v] [] (iv (nestPg p)) [] := by
  unfold nestPg
  refine fn_sem pok 49 0 Tryz.func10 (by kernel_rfl) rfl rfl rfl rfl ?_
  refine SWp.go pok (by kernel_rfl) ?_
  refine PFun.call (check_c p hf) ?_
  refine brP_split (fun h => ?_) (fun h => ?_)
  · have h : checkP p ≠ 0 := by simpa using h
    rw [if_pos h]
    exact fin1 rfl
  have h : checkP p = 0 := by simpa using h
  rw [if_neg (fun k => k h)]
  have hn := hn h
  have hml := hn.mlen
  have hrl := hn.rlen
  refine SWp.loop (fun x : Nat × Int => x.1 ≤ p.mons.length ∧ nsMos (p.mons.drop x.1) x.2 = nsMos p.mons 0) (fun x => ([(1, .ptr 0 0), (2, iv x.2), (13, .d (.sl (p.mons.map Mo.c))), (14, iv p.mons.length), (15, iv x.1)], [.box [.d (.sl (p.mons.map Mo.c)), .d (.sl (p.roles.map Ro.c))]])) (fun x => p.mons.length - x.1) (0, 0) ⟨Nat.zero_le _, rfl⟩ (Le.same ⟨rfl, rfl, rfl, sint (by rw [List.length_map]), rfl, trivial⟩) (fun x hx => ?_)
  obtain ⟨k, n⟩ := x
  obtain ⟨hk, hnn⟩ := hx
  dsimp only at hk hnn
  refine SWp.go pok (by kernel_rfl) ?_
  refine brP_split (fun h4 => ?_) (fun h4 => ?_)
  · have hlt : k < p.mons.length := by simpa using h4
    have hm := List.getElem_mem hlt
    have hat : nsMos (p.mons.drop k) n = nsMos (p.mons.drop (k + 1)) (nsMts p.mons[k].methods (max n 1)) := by rw [List.drop_eq_getElem_cons hlt, nsMos]
    have hfl := hn.flen _ hm
    have hme := hn.meth _ hm
    refine Mo.inRow hlt ?_
    generalize p.mons[k].methods = fs at hat hfl hme ⊢
    refine SWp.loop (fun x : Nat × Int => x.1 ≤ fs.length ∧ nsMts (fs.drop x.1) x.2 = nsMts fs (max n 1)) (fun x => ([(1, .ptr 0 0), (2, iv x.2), (13, .d (.sl (p.mons.map Mo.c))), (14, iv p.mons.length), (15, iv k), (22, .d (.sl (fs.map Mt.c))), (23, iv fs.length), (24, iv x.1)], [.box [.d (.sl (p.mons.map Mo.c)), .d (.sl (p.roles.map Ro.c))]])) (fun x => fs.length - x.1) (0, max n 1) ⟨Nat.zero_le _, rfl⟩ (.inr ⟨[0], ⟨rfl, rfl⟩, rfl, rfl, sint (max_eq _ _), rfl, rfl, rfl, rfl, sint (by rw [List.length_map]), rfl, trivial⟩) (fun x hx => ?_)
    obtain ⟨j, n2⟩ := x
    obtain ⟨hj, hn2⟩ := hx
    dsimp only at hj hn2
    refine SWp.go pok (by kernel_rfl) ?_
    refine brP_split (fun h6 => ?_) (fun h6 => ?_)
    · have hltj : j < fs.length := by simpa using h6
      have hatj : nsMts (fs.drop j) n2 = nsMts (fs.drop (j + 1)) (max n2 (St.nsL fs[j].body 2 2)) := by rw [List.drop_eq_getElem_cons hltj, nsMts]
      refine Mt.inRow hltj ?_
      refine PFun.call (nest_of (hme _ (List.getElem_mem hltj)) 2 (by decide) (by decide)) ?_
      exact ⟨(j + 1, max n2 (St.nsL fs[j].body 2 2)), ⟨hltj, by rw [← hn2, hatj]⟩, by show fs.length - (j + 1) < fs.length - j; omega, .inr ⟨[0], ⟨rfl, rfl⟩, rfl, rfl, sint (max_eq _ _), rfl, rfl, rfl, rfl, rfl, sint (wrap_nat j (by omega)), trivial⟩⟩
    · have hgj : j = fs.length := by simp at h6; omega
      subst hgj
      rw [List.drop_of_length_le (Nat.le_refl _), nsMts] at hn2
      exact ⟨(k + 1, n2), ⟨hlt, by rw [← hnn, hat, ← hn2]⟩, by show p.mons.length - (k + 1) < p.mons.length - k; omega, .inr ⟨[0], ⟨rfl, rfl⟩, rfl, rfl, rfl, rfl, rfl, sint (wrap_nat k (by omega)), trivial⟩⟩
  have hk' : k = p.mons.length := by simp at h4; omega
  subst hk'
  rw [List.drop_of_length_le (Nat.le_refl _), nsMos] at hnn
  rw [← hnn]
  refine SWp.loop (fun x : Nat × Int => x.1 ≤ p.roles.length ∧ nsRos (p.roles.drop x.1) x.2 = nsRos p.roles n) (fun x => ([(2, iv x.2), (36, .d (.sl (p.roles.map Ro.c))), (37, iv p.roles.length), (38, iv x.1)], [])) (fun x => p.roles.length - x.1) (0, n) ⟨Nat.zero_le _, rfl⟩ (.inr ⟨[], ⟨rfl, rfl⟩, rfl, rfl, rfl, sint (by rw [List.length_map]), rfl, trivial⟩) (fun x hx => ?_)
  obtain ⟨j, n2⟩ := x
  obtain ⟨hj, hn2⟩ := hx
  dsimp only at hj hn2
  refine SWp.go pok (by kernel_rfl) ?_
  refine brP_split (fun h6 => ?_) (fun h6 => ?_)
  · have hltj : j < p.roles.length := by simpa using h6
    have hatj : nsRos (p.roles.drop j) n2 = nsRos (p.roles.drop (j + 1)) (max n2 (St.nsL p.roles[j].body 1 1)) := by rw [List.drop_eq_getElem_cons hltj, nsRos]
    refine Ro.inRow hltj ?_
    refine PFun.call (nest_of (hn.role _ (List.getElem_mem hltj)) 1 (by decide) (by decide)) ?_
    exact ⟨(j + 1, max n2 (St.nsL p.roles[j].body 1 1)), ⟨hltj, by rw [← hn2, hatj]⟩, by show p.roles.length - (j + 1) < p.roles.length - j; omega, .inr ⟨[], ⟨rfl, rfl⟩, rfl, sint (max_eq _ _), rfl, rfl, sint (wrap_nat j (by omega)), trivial⟩⟩
  · have hgj : j = p.roles.length := by simp at h6; omega
    subst hgj
    rw [List.drop_of_length_le (Nat.le_refl _), nsRos] at hn2
    exact fin1 (dint hn2)
end Go.Proofs.YtmflfcbebeikcaaGreatDoor.Q

namespace Go.Proofs.YtmflfcbebeikcaaGreatDoor.Q
open Go.RowKit
variable [Amb] [Pow]
def textS (p : Pg) : Str := catG (fun m => moT m 0) p.mons ++ catG (fun r => roT r 0) p.roles
def textP (p : Pg) : Str × Int := if checkP p ≠ 0 then ([], checkP p) else if nestPg p > 64 then ([], 41) else toldS (textS p)
structure PgP (p : Pg) : Prop where
  mlen : p.mons.length < 1073741824
  rlen : p.roles.length < 1073741824
  mons : ∀ m ∈ p.mons, MoP m
  roles : ∀ r ∈ p.roles, RoP r
theorem text_c (p : Pg) (hf : PgF p) (hn : checkP p = 0 → PgN p) (hp : checkP p = 0 → PgP p ∧ (textS p).length ≤ room) : PFun Tryz.prog 7 [p.v] [] (.tup [sv' (textP p).1, iv (textP p).2]) [] := by
  unfold textP
  refine fn_sem pok 48 0 Tryz.func7 (by kernel_rfl) rfl rfl rfl rfl ?_
  refine SWp.go pok (by kernel_rfl) ?_
  refine PFun.call (check_c p hf) ?_
  refine brP_split (fun h => ?_) (fun h => ?_)
  · have h : checkP p ≠ 0 := by simpa using h
    rw [if_pos h]
    exact fin1 rfl
  have h : checkP p = 0 := by simpa using h
  rw [if_neg (fun k => k h)]
  obtain ⟨hP, hlen⟩ := hp h
  have hml := hP.mlen
  have hrl := hP.rlen
  have hR : room = 140737488355328 := rfl
  unfold textS at hlen ⊢
  rw [List.length_append] at hlen
  refine PFun.call (nestPg_c p hf hn) ?_
  refine brP_split (fun h2 => ?_) (fun h2 => ?_)
  · have h2 : nestPg p > 64 := by simpa using h2
    rw [if_pos h2]
    exact fin1 rfl
  have h2 : ¬ nestPg p > 64 := by simp at h2; omega
  rw [if_neg h2]
  refine PFun.call pens_c ?_
  refine SWp.loop (fun x : Nat × Bool => x.1 ≤ p.mons.length) (fun x => ([(1, .ptr 0 0), (5, .ptr 1 0), (20, .d (.sl (p.mons.map Mo.c))), (21, iv p.mons.length), (22, iv x.1)], [.box [.d (.sl (p.mons.map Mo.c)), .d (.sl (p.roles.map Ro.c))], .bld 74 5 x.2 (catG (fun m => moT m 0) (p.mons.take x.1)) [iv 0, .map 2], signO])) (fun x => p.mons.length - x.1) (0, false) (Nat.zero_le _) (Le.same ⟨rfl, rfl, rfl, sint (by rw [List.length_map]), rfl, trivial⟩) (fun x hk => ?_)
  obtain ⟨k, u⟩ := x
  dsimp only at hk
  refine SWp.go pok (by kernel_rfl) ?_
  refine brP_split (fun h4 => ?_) (fun h4 => ?_)
  · have hlt : k < p.mons.length := by simpa using h4
    have e := catG_take (fun m => moT m 0) hlt
    have hle := catG_le (fun m => moT m 0) p.mons (k + 1)
    rw [e, List.length_append] at hle
    refine Mo.inRow hlt ?_
    refine PFun.call (monitor_c p.mons[k] (hP.mons _ (List.getElem_mem hlt)) u (catG (fun m => moT m 0) (p.mons.take k)) 0 (by omega)) ?_
    refine ⟨(k + 1, true), hlt, by show p.mons.length - (k + 1) < p.mons.length - k; omega, .inr ⟨[0, 1, 2], ⟨rfl, rfl⟩, ?_, rfl, rfl, rfl, rfl, sint (wrap_nat k (by omega)), trivial⟩⟩
    rw [e]
    rfl
  have hk' : k = p.mons.length := by simp at h4; omega
  subst hk'
  rw [List.take_length]
  generalize catG (fun m => moT m 0) p.mons = A at *
  refine SWp.loop (fun x : Nat × Bool => x.1 ≤ p.roles.length) (fun x => ([(5, .ptr 0 0), (31, .d (.sl (p.roles.map Ro.c))), (32, iv p.roles.length), (33, iv x.1)], penO x.2 (A ++ catG (fun r => roT r 0) (p.roles.take x.1)) 0)) (fun x => p.roles.length - x.1) (0, u) (Nat.zero_le _) (.inr ⟨[1, 2], ⟨rfl, rfl⟩, by simp only [List.take_zero, catG, List.append_nil, penO]; rfl, rfl, rfl, sint (by rw [List.length_map]), rfl, trivial⟩) (fun x hk2 => ?_)
  obtain ⟨j, u2⟩ := x
  dsimp only at hk2
  refine SWp.go pok (by kernel_rfl) ?_
  refine brP_split (fun h6 => ?_) (fun h6 => ?_)
  · have hltj : j < p.roles.length := by simpa using h6
    have e := catG_take (fun r => roT r 0) hltj
    have hle := catG_le (fun r => roT r 0) p.roles (j + 1)
    rw [e, List.length_append] at hle
    refine Ro.inRow hltj ?_
    refine PFun.call (layro_c p.roles[j] (hP.roles _ (List.getElem_mem hltj)) u2 (A ++ catG (fun r => roT r 0) (p.roles.take j)) 0 (by rw [List.length_append]; omega)) ?_
    refine ⟨(j + 1, true), hltj, by show p.roles.length - (j + 1) < p.roles.length - j; omega, .inr ⟨[0, 1], ⟨rfl, rfl⟩, ?_, rfl, rfl, rfl, sint (wrap_nat j (by omega)), trivial⟩⟩
    rw [e]
    simp only [penO, List.append_assoc]
    rfl
  have hj' : j = p.roles.length := by simp at h6; omega
  subst hj'
  rw [List.take_length]
  refine PFun.call (string_c 74 u2 (A ++ catG (fun r => roT r 0) p.roles) [iv 0, .map 1] [signO]) ?_
  refine PFun.call (told_c (A ++ catG (fun r => roT r 0) p.roles)) ?_
  exact fin1 rfl
end Go.Proofs.YtmflfcbebeikcaaGreatDoor.Q
