/- The matcher's statements and programs. No condition. -/
import Derived.Test.YtmflfcbebeikcaaGreatMG
import Derived.Test.YtmflfcbebeikcaaGreatME
import Derived.Test.YtmflfcbebeikcaaGreatMF
set_option linter.unusedVariables false
set_option linter.unusedSectionVars false
set_option linter.unnecessarySimpa false
set_option linter.unusedSimpArgs false
set_option maxRecDepth 100000
set_option maxHeartbeats 4000000
namespace Go.Proofs.YtmflfcbebeikcaaGreat.Q
open Go.RowKit
variable [Amb]
def foldF : List PS → PS
  | [], S => S
  | f :: r, S => foldF r (f S)
/-- A block. -/
def blkF (l : List Tk) (fs : List PS) : PS := fun S => wS l [125] (foldF fs (wS l [123] S))
/-- Blocks with a word between two. -/
def blksF (l : List Tk) (word : Str) : Nat → List PS → PS
  | _, [], S => S
  | i, f :: r, S => blksF l word (i + 1) r (f (if 0 < i then wS l word S else S))
def pairF (l : List Tk) (a b : Str) : PS := rowF [nS l a, wS l [46], nS l b]
def freeF (l : List Tk) (e : Ex) : PS := atS (endsE l e 1)
def stB (l : List Tk) (kind : Int) (mon name : Str) (n : Int) (e : Ex) (bs : List PS) : PS :=
  if kind = 1 then rowF [wS l [115, 107, 105, 112], wS l [59]]
  else if kind = 2 then rowF [pairF l mon name, wS l [61], freeF l e, wS l [59]]
  else if kind = 3 then rowF [wS l [105, 102], freeF l e, blksF l [101, 108, 115, 101] 0 bs]
  else if kind = 4 then rowF [wS l [119, 104, 105, 108, 101], freeF l e, blksF l [] 0 bs]
  else if kind = 5 then rowF [wS l [108, 111, 111, 112], blksF l [] 0 bs]
  else if kind = 6 then rowF [wS l [99, 104, 111, 111, 115, 101], blksF l [111, 114] 0 bs]
  else if kind = 7 then rowF [wS l [115, 121, 110, 99], nS l mon, blksF l [] 0 bs]
  else if kind = 8 then rowF [wS l [99, 97, 108, 108], pairF l mon name, wS l [59]]
  else if kind = 10 then rowF [wS l [110, 111, 116, 105, 102, 121], nS l mon, wS l [59]]
  else if kind = 11 then rowF [wS l [110, 111, 116, 105, 102, 121, 97, 108, 108], nS l mon, wS l [59]]
  else fun S => wS l [59] ((if 0 < n then iS l n else fun S => S) (rowF [wS l [119, 97, 105, 116], nS l mon] S))
mutual
def stF (l : List Tk) : St → PS
  | ⟨kind, mon, name, n, e, blocks, _⟩ => stB l kind mon name n e (stFss l blocks)
def stFss (l : List Tk) : List (List St) → List PS
  | [] => []
  | b :: r => blkF l (stFs l b) :: stFss l r
def stFs (l : List Tk) : List St → List PS
  | [] => []
  | x :: r => stF l x :: stFs l r
end
theorem stFs_map (l : List Tk) : ∀ xs : List St, stFs l xs = xs.map (stF l)
  | [] => by rw [stFs]; rfl
  | x :: r => by rw [stFs, stFs_map l r]; rfl
def bodyF (l : List Tk) (b : List St) : PS := blkF l (b.map (stF l))
theorem stFss_map (l : List Tk) : ∀ bs : List (List St), stFss l bs = bs.map (bodyF l)
  | [] => by rw [stFss]; rfl
  | b :: r => by rw [stFss, stFss_map l r, stFs_map]; rfl
theorem stF_eq (l : List Tk) (x : St) : stF l x = stB l x.kind x.mon x.name x.n x.e (x.blocks.map (bodyF l)) := by
  cases x; rw [stF, stFss_map]
/-- A number, perhaps below 0. -/
def wholeF (l : List Tk) (n : Int) : PS := fun S => unS (iS l n S) (iS l (IntKind.i64.wrap (0 - n)) (wS l [45] S))
def typeF (l : List Tk) (v : Vr) : PS := if v.type = 2 then wS l [105, 110, 116] else rowF [wholeF l v.lo, wS l [46, 46], wholeF l v.hi]
def varF (l : List Tk) (v : Vr) : PS := fun S =>
  let S1 := rowF [wS l [118, 97, 114], nS l v.name, wS l [58]] S
  if v.type = 1 then rowF [wS l [98, 111, 111, 108], wS l [61], wS l (if v.init = 1 then [116, 114, 117, 101] else [102, 97, 108, 115, 101]), wS l [59]] S1
  else rowF [wS l [61], wholeF l v.init, wS l [59]] (typeF l v S1)
def mtF (l : List Tk) (m : Mt) : PS := rowF [wS l [109, 101, 116, 104, 111, 100], nS l m.name, bodyF l m.body]
def monF (l : List Tk) (m : Mo) : PS := fun S => wS l [125] (foldF (m.methods.map (mtF l)) (foldF (m.vars.map (varF l)) (rowF [wS l [109, 111, 110, 105, 116, 111, 114], nS l m.name, wS l [123]] S)))
def roleF (l : List Tk) (r : Ro) : PS := fun S => bodyF l r.body ((if r.star = true then wS l [42] else iS l r.count) (rowF [wS l [116, 104, 114, 101, 97, 100], nS l r.name] S))
def gprogF (l : List Tk) : Nat → List Mo → List Ro → List Int → Bool
  | 0, _, _, _ => false
  | k + 1, ms, rs, S => if S = [] then false else
    match ms, rs with
    | [], [] => decide ((l.length : Int) - 1 ∈ S)
    | m :: ms', [] => if wS l [109, 111, 110, 105, 116, 111, 114] S = [] then false else gprogF l k ms' [] (monF l m S)
    | [], r :: rs' => if wS l [116, 104, 114, 101, 97, 100] S = [] then false else gprogF l k [] rs' (roleF l r S)
    | m :: ms', r :: rs' => if wS l [109, 111, 110, 105, 116, 111, 114] S = [] then (if wS l [116, 104, 114, 101, 97, 100] S = [] then false else gprogF l k (m :: ms') rs' (roleF l r S)) else gprogF l k ms' (r :: rs') (monF l m S)
def derivesS (l : List Tk) (p : Pg) : Bool := gprogF l (p.mons.length + p.roles.length + 1) p.mons p.roles [0]
def derivesE (l : List Tk) (e : Ex) : Bool := decide ((l.length : Int) - 1 ∈ freeF l e [0])
end Go.Proofs.YtmflfcbebeikcaaGreat.Q

namespace Go.Proofs.YtmflfcbebeikcaaGreat.Q
open Go.RowKit
variable [Amb]
/-! ### places stay behind the text's first -/
def Pos (f : PS) : Prop := ∀ S, OkS 0 S → OkS 0 (f S)
theorem pos_step (l : List Tk) (p : Tk → Bool) : Pos (stepS l p) := okS_step 0 l p
theorem pos_row : ∀ {fs : List PS}, (∀ f ∈ fs, Pos f) → Pos (rowF fs)
  | [], _, S, h => h
  | f :: r, hf, S, h => by
    rw [rowF]
    split
    · exact fun x hx => by cases hx
    · exact pos_row (fun g hg => hf g (List.mem_cons_of_mem _ hg)) _ (hf f List.mem_cons_self S h)
theorem pos_fold : ∀ {fs : List PS}, (∀ f ∈ fs, Pos f) → Pos (foldF fs)
  | [], _, S, h => h
  | f :: r, hf, S, h => pos_fold (fun g hg => hf g (List.mem_cons_of_mem _ hg)) _ (hf f List.mem_cons_self S h)
theorem pos_blk (l : List Tk) {fs : List PS} (hf : ∀ f ∈ fs, Pos f) : Pos (blkF l fs) := fun S h => pos_step l _ _ (pos_fold hf _ (pos_step l _ S h))
theorem pos_blks (l : List Tk) (w : Str) : ∀ {fs : List PS} (i : Nat), (∀ f ∈ fs, Pos f) → Pos (blksF l w i fs)
  | [], i, _, S, h => h
  | f :: r, i, hf, S, h => by
    rw [blksF]
    refine pos_blks l w (i + 1) (fun g hg => hf g (List.mem_cons_of_mem _ hg)) _ (hf f List.mem_cons_self _ ?_)
    split
    · exact pos_step l _ S h
    · exact h
theorem pos_un {f g : PS} (hf : Pos f) (hg : Pos g) : Pos (fun S => unS (f S) (g S)) := fun S h x hx => by
  rcases mem_unS.1 hx with hx | hx
  · exact hg S h x hx
  · exact hf S h x hx
theorem pos_free (l : List Tk) {e : Ex} (hg : e.good) : Pos (freeF l e) := fun S h x hx => by
  obtain ⟨i, h1, h2⟩ := mem_atS.1 hx
  have := h i h1
  have := ends_ge hg (Int.le_refl 1) this h2
  omega
theorem pos_pair (l : List Tk) (a b : Str) : Pos (pairF l a b) := pos_row fun f hf => by
  simp only [List.mem_cons, List.not_mem_nil, or_false] at hf
  rcases hf with rfl | rfl | rfl <;> exact pos_step l _
theorem pos_whole (l : List Tk) (n : Int) : Pos (wholeF l n) := pos_un (pos_step l _) fun S h => pos_step l _ _ (pos_step l _ S h)
/-! ### expressions that stand by themselves -/
/-- An expression that has its shape, and fits. -/
structure Ex.fine (e : Ex) : Prop where
  good : e.good
  kids : ∀ y ∈ e.pre, y.kids.length < 1073741824
def freeC (l : List Tk) (e : Ex) : Cl := atC l e 1
theorem free_c (l : List Tk) {e : Ex} (he : e.fine) : PFun Tryz.prog 28 [.iptr (mtM l), e.v] [] (.fn (.func 93) [] [.iptr [.ptr (mtM l)], .iptr [.nptr (ndRow e)], .iptr [.int .i64 1]]) [] := by
  refine fn_sem pok 9 0 Tryz.func28 (by kernel_rfl) rfl rfl rfl rfl ?_
  refine SWp.go pok (by kernel_rfl) ?_
  refine PFun.call (nodes_c _ e (Nat.le_refl _) he.kids) ?_
  refine PFun.call (at_c l e 1) ?_
  exact ⟨rfl, rfl⟩
section
variable (hM : @Amb.memo _ = gramMemo) {l : List Tk} (hl : l.length < 1073741824)
include hM hl
theorem free_does {e : Ex} (he : e.good) : (freeC l e).Does 0 (freeF l e) :=
  at_does he (Int.le_refl 1) (Int.le_refl 0) fun i hi => expr_all hM hl _ e (Nat.le_refl _) he 1 (Int.le_refl 1) i hi
end
section
variable {l : List Tk} (hl : l.length < 1073741824)
include hl
def pairC (l : List Tk) (a b : Str) : Cl := .three 142 [.ptr (mtM l)] [.str a] [.str b]
theorem pair_does (a b : Str) : (pairC l a b).Does 0 (pairF l a b) := ⟨pos_pair l a b, fun S hS => by
  have := pair1_c l (.memo (.sl (l.map Tk.c))) hl a b S hS
  rw [rowS_F] at this
  exact this⟩
theorem wordM_does (s : Str) : (wordC l (.memo (.sl (l.map Tk.c))) s).Does 0 (wS l s) := word_does (Int.le_refl 0) l _ hl s
theorem calledM_does (s : Str) : (calledC l (.memo (.sl (l.map Tk.c))) s).Does 0 (nS l s) := called_does (Int.le_refl 0) l _ hl s
/-! ### numbers, perhaps below 0 -/
def wholeC (l : List Tk) (n : Int) : Cl := .two 134 [.ptr (mtM l)] [.int .i64 n]
omit hl in
theorem gwhole_c (n : Int) : PFun Tryz.prog 115 [.iptr (mtM l), iv n] [] (.fn (.func 134) [] [.iptr [.ptr (mtM l)], .iptr [.int .i64 n]]) [] := by
  refine fn_sem pok 6 0 Tryz.func115 (by kernel_rfl) rfl rfl rfl rfl ?_
  refine SWp.then pok (by kernel_rfl) ?_
  refine SWp.frz 0 rfl rfl ?_
  refine SWp.frz 1 rfl rfl ?_
  refine SWp.go pok (by kernel_rfl) ?_
  exact ⟨rfl, rfl⟩
theorem whole_does (n : Int) : (wholeC l n).Does 0 (wholeF l n) := ⟨pos_whole l n, fun S hS => by
  refine fn_sem pok 20 0 Tryz.func134 (by kernel_rfl) rfl rfl rfl rfl ?_
  refine SWp.then pok (by kernel_rfl) ?_
  refine SWp.then pok (by kernel_rfl) ?_
  refine PFun.call (gnumber_m l _ hl n S hS) ?_
  refine SWp.then pok (by kernel_rfl) ?_
  refine ⟨_, _, gsign_c l _ hl [45] S hS, ?_⟩
  refine ⟨_, _, gnumber_c l _ hl (IntKind.i64.wrap (0 - n)) (wS l [45] S) (pos_step l _ S hS), ?_⟩
  refine ⟨_, _, copy_c (iS l n S) _ (srt_stepS l _ S), ?_⟩
  refine SWp.frzSet 0 rfl ?_
  refine SWp.go pok (by kernel_rfl) ?_
  exact ⟨rfl, rfl⟩⟩
/-! ### blocks -/
def StC (l : List Tk) (s : St) : Prop := Pos (stF l s) ∧ ∀ S, OkS 0 S → PFun Tryz.prog 117 [.iptr (mtM l), s.v, .d (.set S)] [] (.d (.set (stF l s S))) []
def blockC (l : List Tk) (b : List St) : Cl := .two 116 [.ptr (mtM l)] [.sl (b.map St.c)]
omit hl in
theorem gblock_c (b : List St) : PFun Tryz.prog 86 [.iptr (mtM l), .d (.sl (b.map St.c))] [] (.fn (.func 116) [] [.iptr [.ptr (mtM l)], .iptr [.sl (b.map St.c)]]) [] := by
  refine fn_sem pok 6 0 Tryz.func86 (by kernel_rfl) rfl rfl rfl rfl ?_
  refine SWp.then pok (by kernel_rfl) ?_
  refine SWp.frz 0 rfl rfl ?_
  refine SWp.frz 1 rfl rfl ?_
  refine SWp.go pok (by kernel_rfl) ?_
  exact ⟨rfl, rfl⟩
theorem block_does {b : List St} (hb : b.length < 1073741824) (h : ∀ s ∈ b, StC l s) : (blockC l b).Does 0 (bodyF l b) := ⟨pos_blk l fun f hf => by
  obtain ⟨s, hs, rfl⟩ := List.mem_map.1 hf
  exact (h s hs).1, fun S hS => by
  refine fn_sem pok 24 0 Tryz.func116 (by kernel_rfl) rfl rfl rfl rfl ?_
  refine SWp.go pok (by kernel_rfl) ?_
  refine PFun.call (gsign_c l _ hl [123] S hS) ?_
  refine SWp.loop (fun q : Nat × List Int => q.1 ≤ b.length ∧ OkS 0 q.2 ∧ foldF ((b.drop q.1).map (stF l)) q.2 = foldF (b.map (stF l)) (wS l [123] S))
    (fun q => ([(0, .d (.set q.2)), (1, .iptr [.ptr (mtM l)]), (10, .d (.sl (b.map St.c))), (11, iv b.length), (12, iv q.1)], [])) (fun q => b.length - q.1) (0, wS l [123] S) ⟨Nat.zero_le _, pos_step l _ S hS, rfl⟩ (Le.same ⟨rfl, rfl, rfl, sint (by rw [List.length_map]), rfl, trivial⟩) (fun q hq => ?_)
  obtain ⟨k, T⟩ := q
  obtain ⟨hk, hok, hfo⟩ := hq
  dsimp only at hk hok hfo
  refine SWp.go pok (by kernel_rfl) ?_
  refine brP_split (fun h2 => ?_) (fun h2 => ?_)
  · have hlt : k < b.length := by simpa using h2
    have hst := h _ (List.getElem_mem hlt)
    refine PIdx.map (get_at hlt) ?_
    rw [St.c_rw]
    refine PFun.call (hst.2 T hok) ?_
    refine ⟨(k + 1, stF l b[k] T), ⟨hlt, hst.1 T hok, ?_⟩, by show b.length - (k + 1) < b.length - k; omega, .inr ⟨[], ⟨rfl, rfl⟩, rfl, rfl, rfl, rfl, rfl, sint (wrap_nat k (by omega)), trivial⟩⟩
    rw [← hfo, List.drop_eq_getElem_cons hlt]
    rfl
  · have hge : k = b.length := by simp at h2; omega
    subst hge
    rw [List.drop_length] at hfo
    refine PFun.call (gsign_c l _ hl [125] T hok) ?_
    refine fin1 ?_
    show V.d (.set (wS l [125] T)) = V.d (.set (wS l [125] _))
    rw [← hfo]
    rfl⟩
def blocksC (l : List Tk) (bs : List (List St)) (w : Str) : Cl := .three 143 [.sl (bs.map blk)] [.ptr (mtM l)] [.str w]
omit hl in
theorem gblocks_c (bs : List (List St)) (w : Str) : PFun Tryz.prog 136 [.iptr (mtM l), .d (.sl (bs.map blk)), sv' w] [] (.fn (.func 143) [] [.iptr [.sl (bs.map blk)], .iptr [.ptr (mtM l)], .iptr [.str w]]) [] := by
  refine fn_sem pok 8 0 Tryz.func136 (by kernel_rfl) rfl rfl rfl rfl ?_
  refine SWp.then pok (by kernel_rfl) ?_
  refine SWp.frz 0 rfl rfl ?_
  refine SWp.frz 1 rfl rfl ?_
  refine SWp.frz 2 rfl rfl ?_
  refine SWp.go pok (by kernel_rfl) ?_
  exact ⟨rfl, rfl⟩
theorem blocks_does {bs : List (List St)} (w : Str) (hb : bs.length < 1073741824) (hbl : ∀ b ∈ bs, b.length < 1073741824) (h : ∀ b ∈ bs, ∀ s ∈ b, StC l s) : (blocksC l bs w).Does 0 (blksF l w 0 (bs.map (bodyF l))) := ⟨pos_blks l w 0 fun f hf => by
  obtain ⟨b, hb', rfl⟩ := List.mem_map.1 hf
  exact (block_does hl (hbl b hb') (h b hb')).1, fun S hS => by
  refine fn_sem pok 28 0 Tryz.func143 (by kernel_rfl) rfl rfl rfl rfl ?_
  refine SWp.go pok (by kernel_rfl) ?_
  refine SWp.loop (fun q : Nat × List Int => q.1 ≤ bs.length ∧ OkS 0 q.2 ∧ blksF l w q.1 ((bs.drop q.1).map (bodyF l)) q.2 = blksF l w 0 (bs.map (bodyF l)) S)
    (fun q => ([(0, .d (.set q.2)), (2, .iptr [.ptr (mtM l)]), (3, .iptr [.str w]), (8, .d (.sl (bs.map blk))), (9, iv bs.length), (10, iv q.1)], [])) (fun q => bs.length - q.1) (0, S) ⟨Nat.zero_le _, hS, rfl⟩ (Le.same ⟨rfl, rfl, rfl, rfl, sint (by rw [List.length_map]), rfl, trivial⟩) (fun q hq => ?_)
  obtain ⟨k, T⟩ := q
  obtain ⟨hk, hok, hfo⟩ := hq
  dsimp only at hk hok hfo
  refine SWp.go pok (by kernel_rfl) ?_
  refine brP_split (fun h2 => ?_) (fun h2 => ?_)
  · have hlt : k < bs.length := by simpa using h2
    have hbd := block_does hl (hbl _ (List.getElem_mem hlt)) (h _ (List.getElem_mem hlt))
    have hfo2 : blksF l w (k + 1) ((bs.drop (k + 1)).map (bodyF l)) (bodyF l bs[k] (if 0 < k then wS l w T else T)) = blksF l w 0 (bs.map (bodyF l)) S := by
      rw [← hfo, List.drop_eq_getElem_cons hlt]
      rfl
    refine PIdx.map (get_at hlt) ?_
    refine brP_split (fun h3 => ?_) (fun h3 => ?_)
    · have h3 : 0 < k := by simpa using h3
      rw [if_pos h3] at hfo2
      refine PFun.call (gsign_c l _ hl w T hok) ?_
      refine PFun.call (gblock_c bs[k]) ?_
      refine PFun.call (hbd.2 (wS l w T) (pos_step l _ T hok)) ?_
      exact ⟨(k + 1, bodyF l bs[k] (wS l w T)), ⟨hlt, hbd.1 _ (pos_step l _ T hok), hfo2⟩, by show bs.length - (k + 1) < bs.length - k; omega, Le.same ⟨rfl, rfl, rfl, rfl, rfl, sint (wrap_nat k (by omega)), trivial⟩⟩
    · have h3 : ¬ 0 < k := by simpa using h3
      rw [if_neg h3] at hfo2
      refine PFun.call (gblock_c bs[k]) ?_
      refine PFun.call (hbd.2 T hok) ?_
      exact ⟨(k + 1, bodyF l bs[k] T), ⟨hlt, hbd.1 _ hok, hfo2⟩, by show bs.length - (k + 1) < bs.length - k; omega, Le.same ⟨rfl, rfl, rfl, rfl, rfl, sint (wrap_nat k (by omega)), trivial⟩⟩
  · have hge : k = bs.length := by simp at h2; omega
    subst hge
    rw [List.drop_length] at hfo
    refine fin1 ?_
    rw [← hfo]
    rfl⟩
end
end Go.Proofs.YtmflfcbebeikcaaGreat.Q

namespace Go.Proofs.YtmflfcbebeikcaaGreat.Q
open Go.RowKit
variable [Amb]
/-- A statement that has its shape, and fits. -/
inductive StG : St → Prop
  | mk {kind : Int} {mon name : Str} {n : Int} {e : Ex} {blocks : List (List St)} {pl : Int} (he : kind = 2 ∨ kind = 3 ∨ kind = 4 → e.fine) (hb : blocks.length < 1073741824) (hl : ∀ b ∈ blocks, b.length < 1073741824) (k : ∀ b ∈ blocks, ∀ y ∈ b, StG y) : StG ⟨kind, mon, name, n, e, blocks, pl⟩
section
variable (hM : @Amb.memo _ = gramMemo) {l : List Tk} (hl : l.length < 1073741824)
include hM hl
theorem stmt_all {s : St} (hs : StG s) : StC l s := by
  induction hs with
  | @mk kind mon name n e blocks pl he hb hbl k hst =>
  have hbp : ∀ w, Pos (blksF l w 0 (blocks.map (bodyF l))) := fun w => (blocks_does hl w hb hbl hst).1
  refine ⟨?_, fun S hS => ?_⟩
  · rw [stF_eq]
    unfold stB
    by_cases h1 : kind = 1
    · simp only [if_pos h1]
      refine pos_row fun f hf => ?_
      simp only [List.mem_cons, List.not_mem_nil, or_false] at hf
      rcases hf with rfl | rfl
      · exact pos_step l _
      · exact pos_step l _
    simp only [if_neg h1]
    by_cases h2 : kind = 2
    · simp only [if_pos h2]
      refine pos_row fun f hf => ?_
      simp only [List.mem_cons, List.not_mem_nil, or_false] at hf
      rcases hf with rfl | rfl | rfl | rfl
      · exact pos_pair l _ _
      · exact pos_step l _
      · exact pos_free l (he (by omega)).good
      · exact pos_step l _
    simp only [if_neg h2]
    by_cases h3 : kind = 3
    · simp only [if_pos h3]
      refine pos_row fun f hf => ?_
      simp only [List.mem_cons, List.not_mem_nil, or_false] at hf
      rcases hf with rfl | rfl | rfl
      · exact pos_step l _
      · exact pos_free l (he (by omega)).good
      · exact hbp _
    simp only [if_neg h3]
    by_cases h4 : kind = 4
    · simp only [if_pos h4]
      refine pos_row fun f hf => ?_
      simp only [List.mem_cons, List.not_mem_nil, or_false] at hf
      rcases hf with rfl | rfl | rfl
      · exact pos_step l _
      · exact pos_free l (he (by omega)).good
      · exact hbp _
    simp only [if_neg h4]
    by_cases h5 : kind = 5
    · simp only [if_pos h5]
      refine pos_row fun f hf => ?_
      simp only [List.mem_cons, List.not_mem_nil, or_false] at hf
      rcases hf with rfl | rfl
      · exact pos_step l _
      · exact hbp _
    simp only [if_neg h5]
    by_cases h6 : kind = 6
    · simp only [if_pos h6]
      refine pos_row fun f hf => ?_
      simp only [List.mem_cons, List.not_mem_nil, or_false] at hf
      rcases hf with rfl | rfl
      · exact pos_step l _
      · exact hbp _
    simp only [if_neg h6]
    by_cases h7 : kind = 7
    · simp only [if_pos h7]
      refine pos_row fun f hf => ?_
      simp only [List.mem_cons, List.not_mem_nil, or_false] at hf
      rcases hf with rfl | rfl | rfl
      · exact pos_step l _
      · exact pos_step l _
      · exact hbp _
    simp only [if_neg h7]
    by_cases h8 : kind = 8
    · simp only [if_pos h8]
      refine pos_row fun f hf => ?_
      simp only [List.mem_cons, List.not_mem_nil, or_false] at hf
      rcases hf with rfl | rfl | rfl
      · exact pos_step l _
      · exact pos_pair l _ _
      · exact pos_step l _
    simp only [if_neg h8]
    by_cases h10 : kind = 10
    · simp only [if_pos h10]
      refine pos_row fun f hf => ?_
      simp only [List.mem_cons, List.not_mem_nil, or_false] at hf
      rcases hf with rfl | rfl | rfl
      · exact pos_step l _
      · exact pos_step l _
      · exact pos_step l _
    simp only [if_neg h10]
    by_cases h11 : kind = 11
    · simp only [if_pos h11]
      refine pos_row fun f hf => ?_
      simp only [List.mem_cons, List.not_mem_nil, or_false] at hf
      rcases hf with rfl | rfl | rfl
      · exact pos_step l _
      · exact pos_step l _
      · exact pos_step l _
    simp only [if_neg h11]
    intro S hS
    refine pos_step l _ _ ?_
    have h1 : OkS 0 (rowF [wS l [119, 97, 105, 116], nS l mon] S) := pos_row (fun f hf => by
      simp only [List.mem_cons, List.not_mem_nil, or_false] at hf
      rcases hf with rfl | rfl
      · exact pos_step l _
      · exact pos_step l _) S hS
    split
    · exact pos_step l _ _ h1
    · exact h1
  · rw [stF_eq]
    dsimp only
    unfold stB
    refine fn_sem pok 163 0 Tryz.func117 (by kernel_rfl) rfl rfl rfl rfl ?_
    refine SWp.go pok (by kernel_rfl) ?_
    refine PFun.call (gword_c l _ [59]) ?_
    refine brP_split (fun h => ?_) (fun h1 => ?_)
    · have h := eq_of_beq h
      simp only [if_pos h]
      refine PFun.call (gword_c l _ [115, 107, 105, 112]) ?_
      refine PFun.call (row_c 0 [(wordC l (.memo (.sl (l.map Tk.c))) [115, 107, 105, 112], wS l [115, 107, 105, 112]), (wordC l (.memo (.sl (l.map Tk.c))) [59], wS l [59])] (by simp) (fun c hc => ?_) S hS) ?_
      · simp only [List.mem_cons, List.not_mem_nil, or_false] at hc
        rcases hc with rfl | rfl
        · exact wordM_does hl _
        · exact wordM_does hl _
      rw [rowS_F]
      exact ⟨rfl, rfl⟩
    have h1 : ¬ kind = 1 := by simpa using h1
    simp only [if_neg h1]
    refine brP_split (fun h => ?_) (fun h2 => ?_)
    · have h := eq_of_beq h
      simp only [if_pos h]
      have he0 := he (by omega)
      refine ⟨_, _, gpair_c l _ mon name, ?_⟩
      refine ⟨_, _, gword_c l _ [61], ?_⟩
      refine ⟨_, _, free_c l he0, ?_⟩
      refine ⟨_, _, row_c 0 [(pairC l mon name, pairF l mon name), (wordC l (.memo (.sl (l.map Tk.c))) [61], wS l [61]), (freeC l e, freeF l e), (wordC l (.memo (.sl (l.map Tk.c))) [59], wS l [59])] (by simp) (fun c hc => ?_) S hS, ?_⟩
      · simp only [List.mem_cons, List.not_mem_nil, or_false] at hc
        rcases hc with rfl | rfl | rfl | rfl
        · exact pair_does hl _ _
        · exact wordM_does hl _
        · exact free_does hM hl he0.good
        · exact wordM_does hl _
      rw [rowS_F]
      exact ⟨rfl, rfl⟩
    have h2 : ¬ kind = 2 := by simpa using h2
    simp only [if_neg h2]
    refine brP_split (fun h => ?_) (fun h3 => ?_)
    · have h := eq_of_beq h
      simp only [if_pos h]
      have he0 := he (by omega)
      refine ⟨_, _, gword_c l _ [105, 102], ?_⟩
      refine ⟨_, _, free_c l he0, ?_⟩
      refine ⟨_, _, gblocks_c blocks [101, 108, 115, 101], ?_⟩
      refine ⟨_, _, row_c 0 [(wordC l (.memo (.sl (l.map Tk.c))) [105, 102], wS l [105, 102]), (freeC l e, freeF l e), (blocksC l blocks [101, 108, 115, 101], blksF l [101, 108, 115, 101] 0 (blocks.map (bodyF l)))] (by simp) (fun c hc => ?_) S hS, ?_⟩
      · simp only [List.mem_cons, List.not_mem_nil, or_false] at hc
        rcases hc with rfl | rfl | rfl
        · exact wordM_does hl _
        · exact free_does hM hl he0.good
        · exact blocks_does hl _ hb hbl hst
      rw [rowS_F]
      exact ⟨rfl, rfl⟩
    have h3 : ¬ kind = 3 := by simpa using h3
    simp only [if_neg h3]
    refine brP_split (fun h => ?_) (fun h4 => ?_)
    · have h := eq_of_beq h
      simp only [if_pos h]
      have he0 := he (by omega)
      refine ⟨_, _, gword_c l _ [119, 104, 105, 108, 101], ?_⟩
      refine ⟨_, _, free_c l he0, ?_⟩
      refine ⟨_, _, gblocks_c blocks [], ?_⟩
      refine ⟨_, _, row_c 0 [(wordC l (.memo (.sl (l.map Tk.c))) [119, 104, 105, 108, 101], wS l [119, 104, 105, 108, 101]), (freeC l e, freeF l e), (blocksC l blocks [], blksF l [] 0 (blocks.map (bodyF l)))] (by simp) (fun c hc => ?_) S hS, ?_⟩
      · simp only [List.mem_cons, List.not_mem_nil, or_false] at hc
        rcases hc with rfl | rfl | rfl
        · exact wordM_does hl _
        · exact free_does hM hl he0.good
        · exact blocks_does hl _ hb hbl hst
      rw [rowS_F]
      exact ⟨rfl, rfl⟩
    have h4 : ¬ kind = 4 := by simpa using h4
    simp only [if_neg h4]
    refine brP_split (fun h => ?_) (fun h5 => ?_)
    · have h := eq_of_beq h
      simp only [if_pos h]
      refine ⟨_, _, gword_c l _ [108, 111, 111, 112], ?_⟩
      refine ⟨_, _, gblocks_c blocks [], ?_⟩
      refine ⟨_, _, row_c 0 [(wordC l (.memo (.sl (l.map Tk.c))) [108, 111, 111, 112], wS l [108, 111, 111, 112]), (blocksC l blocks [], blksF l [] 0 (blocks.map (bodyF l)))] (by simp) (fun c hc => ?_) S hS, ?_⟩
      · simp only [List.mem_cons, List.not_mem_nil, or_false] at hc
        rcases hc with rfl | rfl
        · exact wordM_does hl _
        · exact blocks_does hl _ hb hbl hst
      rw [rowS_F]
      exact ⟨rfl, rfl⟩
    have h5 : ¬ kind = 5 := by simpa using h5
    simp only [if_neg h5]
    refine brP_split (fun h => ?_) (fun h6 => ?_)
    · have h := eq_of_beq h
      simp only [if_pos h]
      refine ⟨_, _, gword_c l _ [99, 104, 111, 111, 115, 101], ?_⟩
      refine ⟨_, _, gblocks_c blocks [111, 114], ?_⟩
      refine ⟨_, _, row_c 0 [(wordC l (.memo (.sl (l.map Tk.c))) [99, 104, 111, 111, 115, 101], wS l [99, 104, 111, 111, 115, 101]), (blocksC l blocks [111, 114], blksF l [111, 114] 0 (blocks.map (bodyF l)))] (by simp) (fun c hc => ?_) S hS, ?_⟩
      · simp only [List.mem_cons, List.not_mem_nil, or_false] at hc
        rcases hc with rfl | rfl
        · exact wordM_does hl _
        · exact blocks_does hl _ hb hbl hst
      rw [rowS_F]
      exact ⟨rfl, rfl⟩
    have h6 : ¬ kind = 6 := by simpa using h6
    simp only [if_neg h6]
    refine brP_split (fun h => ?_) (fun h7 => ?_)
    · have h := eq_of_beq h
      simp only [if_pos h]
      refine ⟨_, _, gword_c l _ [115, 121, 110, 99], ?_⟩
      refine ⟨_, _, gcalled_c l _ mon, ?_⟩
      refine ⟨_, _, gblocks_c blocks [], ?_⟩
      refine ⟨_, _, row_c 0 [(wordC l (.memo (.sl (l.map Tk.c))) [115, 121, 110, 99], wS l [115, 121, 110, 99]), (calledC l (.memo (.sl (l.map Tk.c))) mon, nS l mon), (blocksC l blocks [], blksF l [] 0 (blocks.map (bodyF l)))] (by simp) (fun c hc => ?_) S hS, ?_⟩
      · simp only [List.mem_cons, List.not_mem_nil, or_false] at hc
        rcases hc with rfl | rfl | rfl
        · exact wordM_does hl _
        · exact calledM_does hl _
        · exact blocks_does hl _ hb hbl hst
      rw [rowS_F]
      exact ⟨rfl, rfl⟩
    have h7 : ¬ kind = 7 := by simpa using h7
    simp only [if_neg h7]
    refine brP_split (fun h => ?_) (fun h8 => ?_)
    · have h := eq_of_beq h
      simp only [if_pos h]
      refine ⟨_, _, gword_c l _ [99, 97, 108, 108], ?_⟩
      refine ⟨_, _, gpair_c l _ mon name, ?_⟩
      refine ⟨_, _, row_c 0 [(wordC l (.memo (.sl (l.map Tk.c))) [99, 97, 108, 108], wS l [99, 97, 108, 108]), (pairC l mon name, pairF l mon name), (wordC l (.memo (.sl (l.map Tk.c))) [59], wS l [59])] (by simp) (fun c hc => ?_) S hS, ?_⟩
      · simp only [List.mem_cons, List.not_mem_nil, or_false] at hc
        rcases hc with rfl | rfl | rfl
        · exact wordM_does hl _
        · exact pair_does hl _ _
        · exact wordM_does hl _
      rw [rowS_F]
      exact ⟨rfl, rfl⟩
    have h8 : ¬ kind = 8 := by simpa using h8
    simp only [if_neg h8]
    refine brP_split (fun h => ?_) (fun h10 => ?_)
    · have h := eq_of_beq h
      simp only [if_pos h]
      refine ⟨_, _, gword_c l _ [110, 111, 116, 105, 102, 121], ?_⟩
      refine ⟨_, _, gcalled_c l _ mon, ?_⟩
      refine ⟨_, _, row_c 0 [(wordC l (.memo (.sl (l.map Tk.c))) [110, 111, 116, 105, 102, 121], wS l [110, 111, 116, 105, 102, 121]), (calledC l (.memo (.sl (l.map Tk.c))) mon, nS l mon), (wordC l (.memo (.sl (l.map Tk.c))) [59], wS l [59])] (by simp) (fun c hc => ?_) S hS, ?_⟩
      · simp only [List.mem_cons, List.not_mem_nil, or_false] at hc
        rcases hc with rfl | rfl | rfl
        · exact wordM_does hl _
        · exact calledM_does hl _
        · exact wordM_does hl _
      rw [rowS_F]
      exact ⟨rfl, rfl⟩
    have h10 : ¬ kind = 10 := by simpa using h10
    simp only [if_neg h10]
    refine brP_split (fun h => ?_) (fun h11 => ?_)
    · have h := eq_of_beq h
      simp only [if_pos h]
      refine ⟨_, _, gword_c l _ [110, 111, 116, 105, 102, 121, 97, 108, 108], ?_⟩
      refine ⟨_, _, gcalled_c l _ mon, ?_⟩
      refine ⟨_, _, row_c 0 [(wordC l (.memo (.sl (l.map Tk.c))) [110, 111, 116, 105, 102, 121, 97, 108, 108], wS l [110, 111, 116, 105, 102, 121, 97, 108, 108]), (calledC l (.memo (.sl (l.map Tk.c))) mon, nS l mon), (wordC l (.memo (.sl (l.map Tk.c))) [59], wS l [59])] (by simp) (fun c hc => ?_) S hS, ?_⟩
      · simp only [List.mem_cons, List.not_mem_nil, or_false] at hc
        rcases hc with rfl | rfl | rfl
        · exact wordM_does hl _
        · exact calledM_does hl _
        · exact wordM_does hl _
      rw [rowS_F]
      exact ⟨rfl, rfl⟩
    have h11 : ¬ kind = 11 := by simpa using h11
    simp only [if_neg h11]
    refine ⟨_, _, gword_c l _ [119, 97, 105, 116], ?_⟩
    refine ⟨_, _, gcalled_c l _ mon, ?_⟩
    refine ⟨_, _, row_c 0 [(wordC l (.memo (.sl (l.map Tk.c))) [119, 97, 105, 116], wS l [119, 97, 105, 116]), (calledC l (.memo (.sl (l.map Tk.c))) mon, nS l mon)] (by simp) (fun c hc => ?_) S hS, ?_⟩
    · simp only [List.mem_cons, List.not_mem_nil, or_false] at hc
      rcases hc with rfl | rfl
      · exact wordM_does hl _
      · exact calledM_does hl _
    rw [rowS_F]
    have h1 : OkS 0 (rowF [wS l [119, 97, 105, 116], nS l mon] S) := pos_row (fun f hf => by
      simp only [List.mem_cons, List.not_mem_nil, or_false] at hf
      rcases hf with rfl | rfl
      · exact pos_step l _
      · exact pos_step l _) S hS
    refine brP_split (fun h => ?_) (fun h => ?_)
    · rw [if_pos (by simpa using h)]
      refine PFun.call (gnumber_c l _ hl n _ h1) ?_
      refine PFun.call (gsign_c l _ hl [59] _ (pos_step l _ _ h1)) ?_
      exact ⟨rfl, rfl⟩
    · rw [if_neg (by simpa using h)]
      refine PFun.call (gsign_c l _ hl [59] _ h1) ?_
      exact ⟨rfl, rfl⟩
end
end Go.Proofs.YtmflfcbebeikcaaGreat.Q

namespace Go.Proofs.YtmflfcbebeikcaaGreat.Q
open Go.RowKit
variable [Amb]
structure BdG (b : List St) : Prop where
  len : b.length < 1073741824
  st : ∀ s ∈ b, StG s
structure MoG (m : Mo) : Prop where
  vars : m.vars.length < 1073741824
  meths : m.methods.length < 1073741824
  body : ∀ f ∈ m.methods, BdG f.body
structure PgG (p : Pg) : Prop where
  mons : p.mons.length < 1073741824
  roles : p.roles.length < 1073741824
  mon : ∀ m ∈ p.mons, MoG m
  role : ∀ r ∈ p.roles, BdG r.body
section
variable (hM : @Amb.memo _ = gramMemo) {l : List Tk} (hl : l.length < 1073741824)
include hM hl
theorem body_does {b : List St} (h : BdG b) : (blockC l b).Does 0 (bodyF l b) := block_does hl h.len fun s hs => stmt_all hM hl (h.st s hs)
omit hM in
theorem gvar_c (v : Vr) (S : List Int) (hS : OkS 0 S) : PFun Tryz.prog 85 [.iptr (mtM l), v.v, .d (.set S)] [] (.d (.set (varF l v S))) [] := by
  have hp0 : OkS 0 (rowF [wS l [118, 97, 114], nS l v.name, wS l [58]] S) := pos_row (fun f hf => by
      simp only [List.mem_cons, List.not_mem_nil, or_false] at hf
      rcases hf with rfl | rfl | rfl <;> exact pos_step l _) S hS
  refine fn_sem pok 67 0 Tryz.func85 (by kernel_rfl) rfl rfl rfl rfl ?_
  refine SWp.go pok (by kernel_rfl) ?_
  unfold varF
  dsimp only
  refine ⟨_, _, gword_c l _ [118, 97, 114], ?_⟩
  refine ⟨_, _, gcalled_c l _ v.name, ?_⟩
  refine ⟨_, _, gword_c l _ [58], ?_⟩
  refine ⟨_, _, row_c 0 [(wordC l (.memo (.sl (l.map Tk.c))) [118, 97, 114], wS l [118, 97, 114]), (calledC l (.memo (.sl (l.map Tk.c))) v.name, nS l v.name), (wordC l (.memo (.sl (l.map Tk.c))) [58], wS l [58])] (by simp) (fun c hc => ?_) S hS, ?_⟩
  · simp only [List.mem_cons, List.not_mem_nil, or_false] at hc
    rcases hc with rfl | rfl | rfl
    · exact wordM_does hl _
    · exact calledM_does hl _
    · exact wordM_does hl _
  rw [rowS_F]
  refine brP_split (fun h => ?_) (fun h => ?_)
  · rw [if_pos (eq_of_beq h)]
    refine brP_split (fun h2 => ?_) (fun h2 => ?_)
    · rw [if_pos (eq_of_beq h2)]
      refine PFun.call (gword_c l _ [98, 111, 111, 108]) ?_
      refine PFun.call (gword_c l _ [61]) ?_
      refine PFun.call (gword_c l _ [116, 114, 117, 101]) ?_
      refine PFun.call (gword_c l _ [59]) ?_
      refine PFun.call (row_c 0 [(wordC l (.memo (.sl (l.map Tk.c))) [98, 111, 111, 108], wS l [98, 111, 111, 108]), (wordC l (.memo (.sl (l.map Tk.c))) [61], wS l [61]), (wordC l (.memo (.sl (l.map Tk.c))) [116, 114, 117, 101], wS l [116, 114, 117, 101]), (wordC l (.memo (.sl (l.map Tk.c))) [59], wS l [59])] (by simp) (fun c hc => ?_) _ hp0) ?_
      · simp only [List.mem_cons, List.not_mem_nil, or_false] at hc
        rcases hc with rfl | rfl | rfl | rfl <;> exact wordM_does hl _
      rw [rowS_F]
      exact ⟨rfl, rfl⟩
    · rw [if_neg (by simpa using h2)]
      refine PFun.call (gword_c l _ [98, 111, 111, 108]) ?_
      refine PFun.call (gword_c l _ [61]) ?_
      refine PFun.call (gword_c l _ [102, 97, 108, 115, 101]) ?_
      refine PFun.call (gword_c l _ [59]) ?_
      refine PFun.call (row_c 0 [(wordC l (.memo (.sl (l.map Tk.c))) [98, 111, 111, 108], wS l [98, 111, 111, 108]), (wordC l (.memo (.sl (l.map Tk.c))) [61], wS l [61]), (wordC l (.memo (.sl (l.map Tk.c))) [102, 97, 108, 115, 101], wS l [102, 97, 108, 115, 101]), (wordC l (.memo (.sl (l.map Tk.c))) [59], wS l [59])] (by simp) (fun c hc => ?_) _ hp0) ?_
      · simp only [List.mem_cons, List.not_mem_nil, or_false] at hc
        rcases hc with rfl | rfl | rfl | rfl <;> exact wordM_does hl _
      rw [rowS_F]
      exact ⟨rfl, rfl⟩
  rw [if_neg (by simpa using h)]
  unfold typeF
  refine brP_split (fun h => ?_) (fun h => ?_)
  · rw [if_pos (eq_of_beq h)]
    refine PFun.call (gsign_c l _ hl [105, 110, 116] _ hp0) ?_
    refine ⟨_, _, gword_c l _ [61], ?_⟩
    refine ⟨_, _, gwhole_c v.init, ?_⟩
    refine ⟨_, _, gword_c l _ [59], ?_⟩
    refine ⟨_, _, row_c 0 [(wordC l (.memo (.sl (l.map Tk.c))) [61], wS l [61]), (wholeC l v.init, wholeF l v.init), (wordC l (.memo (.sl (l.map Tk.c))) [59], wS l [59])] (by simp) (fun c hc => ?_) _ (pos_step l _ _ hp0), ?_⟩
    · simp only [List.mem_cons, List.not_mem_nil, or_false] at hc
      rcases hc with rfl | rfl | rfl
      · exact wordM_does hl _
      · exact whole_does hl _
      · exact wordM_does hl _
    rw [rowS_F]
    exact ⟨rfl, rfl⟩
  · rw [if_neg (by simpa using h)]
    have hp1 : OkS 0 (rowF [wholeF l v.lo, wS l [46, 46], wholeF l v.hi] (rowF [wS l [118, 97, 114], nS l v.name, wS l [58]] S)) := pos_row (fun f hf => by
      simp only [List.mem_cons, List.not_mem_nil, or_false] at hf
      rcases hf with rfl | rfl | rfl
      · exact pos_whole l _
      · exact pos_step l _
      · exact pos_whole l _) _ hp0
    refine ⟨_, _, gwhole_c v.lo, ?_⟩
    refine ⟨_, _, gword_c l _ [46, 46], ?_⟩
    refine ⟨_, _, gwhole_c v.hi, ?_⟩
    refine ⟨_, _, row_c 0 [(wholeC l v.lo, wholeF l v.lo), (wordC l (.memo (.sl (l.map Tk.c))) [46, 46], wS l [46, 46]), (wholeC l v.hi, wholeF l v.hi)] (by simp) (fun c hc => ?_) _ hp0, ?_⟩
    · simp only [List.mem_cons, List.not_mem_nil, or_false] at hc
      rcases hc with rfl | rfl | rfl
      · exact whole_does hl _
      · exact wordM_does hl _
      · exact whole_does hl _
    rw [rowS_F]
    refine ⟨_, _, gword_c l _ [61], ?_⟩
    refine ⟨_, _, gwhole_c v.init, ?_⟩
    refine ⟨_, _, gword_c l _ [59], ?_⟩
    refine ⟨_, _, row_c 0 [(wordC l (.memo (.sl (l.map Tk.c))) [61], wS l [61]), (wholeC l v.init, wholeF l v.init), (wordC l (.memo (.sl (l.map Tk.c))) [59], wS l [59])] (by simp) (fun c hc => ?_) _ hp1, ?_⟩
    · simp only [List.mem_cons, List.not_mem_nil, or_false] at hc
      rcases hc with rfl | rfl | rfl
      · exact wordM_does hl _
      · exact whole_does hl _
      · exact wordM_does hl _
    rw [rowS_F]
    exact ⟨rfl, rfl⟩
omit hM hl in
theorem pos_var (v : Vr) : Pos (varF l v) := fun S hS => by
  have h0 : OkS 0 (rowF [wS l [118, 97, 114], nS l v.name, wS l [58]] S) := pos_row (fun f hf => by
      simp only [List.mem_cons, List.not_mem_nil, or_false] at hf
      rcases hf with rfl | rfl | rfl <;> exact pos_step l _) S hS
  have h1 : Pos (typeF l v) := by
    unfold typeF
    split
    · exact pos_step l _
    · refine pos_row fun f hf => ?_
      simp only [List.mem_cons, List.not_mem_nil, or_false] at hf
      rcases hf with rfl | rfl | rfl
      · exact pos_whole l _
      · exact pos_step l _
      · exact pos_whole l _
  unfold varF
  dsimp only
  split
  · refine pos_row (fun f hf => ?_) _ h0
    simp only [List.mem_cons, List.not_mem_nil, or_false] at hf
    rcases hf with rfl | rfl | rfl | rfl <;> exact pos_step l _
  · refine pos_row (fun f hf => ?_) _ (h1 _ h0)
    simp only [List.mem_cons, List.not_mem_nil, or_false] at hf
    rcases hf with rfl | rfl | rfl
    · exact pos_step l _
    · exact pos_whole l _
    · exact pos_step l _
theorem pos_mt {m : Mt} (h : BdG m.body) : Pos (mtF l m) := pos_row fun f hf => by
  simp only [List.mem_cons, List.not_mem_nil, or_false] at hf
  rcases hf with rfl | rfl | rfl
  · exact pos_step l _
  · exact pos_step l _
  · exact (body_does hM hl h).1
theorem pos_mon {m : Mo} (h : MoG m) : Pos (monF l m) := fun S hS => by
  refine pos_step l _ _ (pos_fold (fun f hf => ?_) _ (pos_fold (fun f hf => ?_) _ (pos_row (fun f hf => ?_) S hS)))
  · obtain ⟨t, ht, rfl⟩ := List.mem_map.1 hf
    exact pos_mt hM hl (h.body t ht)
  · obtain ⟨t, ht, rfl⟩ := List.mem_map.1 hf
    exact pos_var t
  · simp only [List.mem_cons, List.not_mem_nil, or_false] at hf
    rcases hf with rfl | rfl | rfl <;> exact pos_step l _
theorem pos_role {r : Ro} (h : BdG r.body) : Pos (roleF l r) := fun S hS => by
  refine (body_does hM hl h).1 _ ?_
  have h0 : OkS 0 (rowF [wS l [116, 104, 114, 101, 97, 100], nS l r.name] S) := pos_row (fun f hf => by
    simp only [List.mem_cons, List.not_mem_nil, or_false] at hf
    rcases hf with rfl | rfl <;> exact pos_step l _) S hS
  split
  · exact pos_step l _ _ h0
  · exact pos_step l _ _ h0
theorem gmon_c {m : Mo} (h : MoG m) (S : List Int) (hS : OkS 0 S) : PFun Tryz.prog 48 [.iptr (mtM l), m.v, .d (.set S)] [] (.d (.set (monF l m S))) [] := by
  have hv := h.vars
  have hm := h.meths
  have hp0 : OkS 0 (rowF [wS l [109, 111, 110, 105, 116, 111, 114], nS l m.name, wS l [123]] S) := pos_row (fun f hf => by
      simp only [List.mem_cons, List.not_mem_nil, or_false] at hf
      rcases hf with rfl | rfl | rfl <;> exact pos_step l _) S hS
  refine fn_sem pok 58 0 Tryz.func48 (by kernel_rfl) rfl rfl rfl rfl ?_
  refine SWp.go pok (by kernel_rfl) ?_
  refine ⟨_, _, gword_c l _ [109, 111, 110, 105, 116, 111, 114], ?_⟩
  refine ⟨_, _, gcalled_c l _ m.name, ?_⟩
  refine ⟨_, _, gword_c l _ [123], ?_⟩
  refine ⟨_, _, row_c 0 [(wordC l (.memo (.sl (l.map Tk.c))) [109, 111, 110, 105, 116, 111, 114], wS l [109, 111, 110, 105, 116, 111, 114]), (calledC l (.memo (.sl (l.map Tk.c))) m.name, nS l m.name), (wordC l (.memo (.sl (l.map Tk.c))) [123], wS l [123])] (by simp) (fun c hc => ?_) S hS, ?_⟩
  · simp only [List.mem_cons, List.not_mem_nil, or_false] at hc
    rcases hc with rfl | rfl | rfl
    · exact wordM_does hl _
    · exact calledM_does hl _
    · exact wordM_does hl _
  rw [rowS_F]
  refine SWp.loop (fun q : Nat × List Int => q.1 ≤ m.vars.length ∧ OkS 0 q.2 ∧ foldF ((m.vars.drop q.1).map (varF l)) q.2 = foldF (m.vars.map (varF l)) (rowF [wS l [109, 111, 110, 105, 116, 111, 114], nS l m.name, wS l [123]] S))
    (fun q => ([(0, .iptr (mtM l)), (2, .d (.set q.2)), (4, .ptr 0 0), (23, .d (.sl (m.vars.map Vr.c))), (24, iv m.vars.length), (25, iv q.1)], [.box [sv' m.name, .d (.sl (m.vars.map Vr.c)), .d (.sl (m.methods.map Mt.c)), iv m.pl]])) (fun q => m.vars.length - q.1) (0, _) ⟨Nat.zero_le _, hp0, rfl⟩ (Le.same ⟨rfl, rfl, rfl, rfl, sint (by rw [List.length_map]), rfl, trivial⟩) (fun q hq => ?_)
  obtain ⟨k, T⟩ := q
  obtain ⟨hk, hok, hfo⟩ := hq
  dsimp only at hk hok hfo
  refine SWp.go pok (by kernel_rfl) ?_
  refine brP_split (fun h2 => ?_) (fun h2 => ?_)
  · have hlt : k < m.vars.length := by simpa using h2
    refine PIdx.map (get_at hlt) ?_
    refine PFun.call (gvar_c hl m.vars[k] T hok) ?_
    refine ⟨(k + 1, varF l m.vars[k] T), ⟨hlt, pos_var _ T hok, ?_⟩, by show m.vars.length - (k + 1) < m.vars.length - k; omega, .inr ⟨[0], ⟨rfl, rfl⟩, rfl, rfl, rfl, rfl, rfl, rfl, sint (wrap_nat k (by omega)), trivial⟩⟩
    rw [← hfo, List.drop_eq_getElem_cons hlt]
    rfl
  · have hge : k = m.vars.length := by simp at h2; omega
    subst hge
    rw [List.drop_length] at hfo
    have hT : T = foldF (m.vars.map (varF l)) (rowF [wS l [109, 111, 110, 105, 116, 111, 114], nS l m.name, wS l [123]] S) := hfo
    have hmon : monF l m S = wS l [125] (foldF (m.methods.map (mtF l)) T) := by rw [hT]; rfl
    rw [hmon]
    refine SWp.loop (fun q : Nat × List Int => q.1 ≤ m.methods.length ∧ OkS 0 q.2 ∧ foldF ((m.methods.drop q.1).map (mtF l)) q.2 = foldF (m.methods.map (mtF l)) T)
      (fun q => ([(0, .iptr (mtM l)), (2, .d (.set q.2)), (35, .d (.sl (m.methods.map Mt.c))), (36, iv m.methods.length), (37, iv q.1)], [.box [sv' m.name, .d (.sl (m.vars.map Vr.c)), .d (.sl (m.methods.map Mt.c)), iv m.pl]])) (fun q => m.methods.length - q.1) (0, T) ⟨Nat.zero_le _, hok, rfl⟩ (Le.same ⟨rfl, rfl, rfl, sint (by rw [List.length_map]), rfl, trivial⟩) (fun q hq => ?_)
    obtain ⟨k, U⟩ := q
    obtain ⟨hk, hok, hfo⟩ := hq
    dsimp only at hk hok hfo
    refine SWp.go pok (by kernel_rfl) ?_
    refine brP_split (fun h2 => ?_) (fun h2 => ?_)
    · have hlt : k < m.methods.length := by simpa using h2
      have hb := h.body _ (List.getElem_mem hlt)
      refine PIdx.map (get_at hlt) ?_
      refine ⟨_, _, gword_c l _ [109, 101, 116, 104, 111, 100], ?_⟩
      refine ⟨_, _, gcalled_c l _ m.methods[k].name, ?_⟩
      refine ⟨_, _, gblock_c m.methods[k].body, ?_⟩
      refine ⟨_, _, row_c 0 [(wordC l (.memo (.sl (l.map Tk.c))) [109, 101, 116, 104, 111, 100], wS l [109, 101, 116, 104, 111, 100]), (calledC l (.memo (.sl (l.map Tk.c))) m.methods[k].name, nS l m.methods[k].name), (blockC l m.methods[k].body, bodyF l m.methods[k].body)] (by simp) (fun c hc => ?_) U hok, ?_⟩
      · simp only [List.mem_cons, List.not_mem_nil, or_false] at hc
        rcases hc with rfl | rfl | rfl
        · exact wordM_does hl _
        · exact calledM_does hl _
        · exact body_does hM hl hb
      rw [rowS_F]
      refine ⟨(k + 1, mtF l m.methods[k] U), ⟨hlt, pos_mt hM hl hb U hok, ?_⟩, by show m.methods.length - (k + 1) < m.methods.length - k; omega, .inr ⟨[0], ⟨rfl, rfl⟩, rfl, rfl, rfl, rfl, rfl, sint (wrap_nat k (by omega)), trivial⟩⟩
      rw [← hfo, List.drop_eq_getElem_cons hlt]
      rfl
    · have hge : k = m.methods.length := by simp at h2; omega
      subst hge
      rw [List.drop_length] at hfo
      refine PFun.call (gsign_c l _ hl [125] U hok) ?_
      refine fin1 ?_
      rw [← hfo]
      rfl
theorem grole_c {r : Ro} (h : BdG r.body) (S : List Int) (hS : OkS 0 S) : PFun Tryz.prog 49 [.iptr (mtM l), r.v, .d (.set S)] [] (.d (.set (roleF l r S))) [] := by
  have h0 : OkS 0 (rowF [wS l [116, 104, 114, 101, 97, 100], nS l r.name] S) := pos_row (fun f hf => by
    simp only [List.mem_cons, List.not_mem_nil, or_false] at hf
    rcases hf with rfl | rfl <;> exact pos_step l _) S hS
  refine fn_sem pok 32 0 Tryz.func49 (by kernel_rfl) rfl rfl rfl rfl ?_
  refine SWp.go pok (by kernel_rfl) ?_
  refine ⟨_, _, gword_c l _ [116, 104, 114, 101, 97, 100], ?_⟩
  refine ⟨_, _, gcalled_c l _ r.name, ?_⟩
  refine ⟨_, _, row_c 0 [(wordC l (.memo (.sl (l.map Tk.c))) [116, 104, 114, 101, 97, 100], wS l [116, 104, 114, 101, 97, 100]), (calledC l (.memo (.sl (l.map Tk.c))) r.name, nS l r.name)] (by simp) (fun c hc => ?_) S hS, ?_⟩
  · simp only [List.mem_cons, List.not_mem_nil, or_false] at hc
    rcases hc with rfl | rfl
    · exact wordM_does hl _
    · exact calledM_does hl _
  rw [rowS_F]
  unfold roleF
  refine brP_split (fun h2 => ?_) (fun h2 => ?_)
  · rw [if_pos h2]
    refine PFun.call (gsign_c l _ hl [42] _ h0) ?_
    refine PFun.call (gblock_c r.body) ?_
    refine PFun.call ((body_does hM hl h).2 _ (pos_step l _ _ h0)) ?_
    exact ⟨rfl, rfl⟩
  · rw [if_neg (by rw [h2]; simp)]
    refine PFun.call (gnumber_c l _ hl r.count _ h0) ?_
    refine PFun.call (gblock_c r.body) ?_
    refine PFun.call ((body_does hM hl h).2 _ (pos_step l _ _ h0)) ?_
    exact ⟨rfl, rfl⟩
end
end Go.Proofs.YtmflfcbebeikcaaGreat.Q

namespace Go.Proofs.YtmflfcbebeikcaaGreat.Q
open Go.RowKit
variable [Amb]
theorem len_pos {α : Type} {l : List α} : decide ((l.length : Int) > 0) = true ↔ l ≠ [] := by
  cases l <;> simp <;> omega
theorem len_no {α : Type} {l : List α} : decide ((l.length : Int) > 0) = false ↔ l = [] := by
  cases l <;> simp <;> omega
theorem gprogF_nil (l : List Tk) (k : Nat) (ms : List Mo) (rs : List Ro) : gprogF l (k + 1) ms rs [] = false := by
  cases ms <;> cases rs <;> simp [gprogF]
section
variable (hM : @Amb.memo _ = gramMemo) {l : List Tk} (hl : l.length < 1073741824)
include hM hl
theorem gprog_c {p : Pg} (h : PgG p) (S : List Int) (hS : OkS 0 S) : PFun Tryz.prog 21 [.iptr (mtM l), .d (.sl (p.mons.map Mo.c)), .d (.sl (p.roles.map Ro.c)), .map 0] [.iset S] (.d (.bool (gprogF l (p.mons.length + p.roles.length + 1) p.mons p.roles S))) [.dead] := by
  generalize hR : gprogF l (p.mons.length + p.roles.length + 1) p.mons p.roles S = R
  refine fn_sem pok 66 1 Tryz.func21 (by kernel_rfl) rfl rfl rfl rfl ?_
  refine SWp.frzSet 0 rfl ?_
  refine SWp.go pok (by kernel_rfl) ?_
  refine SWp.loop (fun q : List Mo × List Ro × List Int => OkS 0 q.2.2 ∧ (q.1.length ≤ p.mons.length ∧ ∀ m ∈ q.1, MoG m) ∧ (q.2.1.length ≤ p.roles.length ∧ ∀ r ∈ q.2.1, BdG r.body) ∧ gprogF l (q.1.length + q.2.1.length + 1) q.1 q.2.1 q.2.2 = R)
    (fun q => ([(0, .iptr (mtM l)), (1, .d (.sl (q.1.map Mo.c))), (2, .d (.sl (q.2.1.map Ro.c))), (3, .d (.set q.2.2))], [.dead])) (fun q => q.1.length + q.2.1.length) (p.mons, p.roles, S) ⟨hS, ⟨Nat.le_refl _, h.mon⟩, ⟨Nat.le_refl _, h.role⟩, hR⟩ (Le.same ⟨rfl, rfl, rfl, rfl, trivial⟩) (fun q hq => ?_)
  obtain ⟨ms, rs, T⟩ := q
  obtain ⟨hok, ⟨hml, hmg⟩, ⟨hrl, hrg⟩, hfo⟩ := hq
  dsimp only at hok hml hmg hrl hrg hfo
  have hpm := h.mons
  have hpr := h.roles
  have hidx : IntKind.i64.wrap ((l.length : Int) - 1) = (l.length : Int) - 1 := wrap_in (by unfold R64; omega)
  by_cases hT : T = []
  · subst hT
    rw [gprogF_nil] at hfo
    refine SWp.go pok (by kernel_rfl) ?_
    exact ⟨by rw [← hfo], rfl⟩
  cases ms with
  | nil =>
    cases rs with
    | nil =>
      simp only [gprogF, if_neg hT] at hfo
      subst hfo
      refine SWp.go pok (by kernel_rfl) ?_
      refine brP_true (len_pos.2 hT) ?_
      refine ⟨?_, rfl⟩
      dsimp only
      rw [List.length_map, hidx]
    | cons r rs =>
      simp only [gprogF, if_neg hT] at hfo
      refine SWp.go pok (by kernel_rfl) ?_
      refine brP_true (len_pos.2 hT) ?_
      refine brP_true (len_pos.2 (by simp)) ?_
      refine PFun.call (gsign_c l _ hl [116, 104, 114, 101, 97, 100] T hok) ?_
      refine brP_split (fun h2 => ?_) (fun h2 => ?_)
      · rw [if_neg (len_pos.1 h2)] at hfo
        refine ⟨by decide, _, rfl, ?_⟩
        refine ⟨_, _, grole_c hM hl (hrg r List.mem_cons_self) T hok, ?_⟩
        refine ⟨⟨by decide, by simp; omega⟩, RL_ro (r :: rs), ?_⟩
        exact ⟨([], rs, roleF l r T), ⟨pos_role hM hl (hrg r List.mem_cons_self) T hok, ⟨Nat.zero_le _, by simp⟩, ⟨by dsimp only; rw [List.length_cons] at hrl; omega, fun x hx => hrg x (List.mem_cons_of_mem _ hx)⟩, hfo⟩, by show [].length + rs.length < [].length + (rs.length + 1); omega, Le.same ⟨rfl, rfl, rfl, rfl, trivial⟩⟩
      · rw [if_pos (len_no.1 h2)] at hfo
        refine brP_split (fun h3 => ?_) (fun h3 => ?_)
        · exfalso
          simp [IntKind.wrap_i64] at h3
          simp at hrl
          omega
        exact ⟨by rw [← hfo], rfl⟩
  | cons m ms =>
    cases rs with
    | nil =>
      simp only [gprogF, if_neg hT] at hfo
      refine SWp.go pok (by kernel_rfl) ?_
      refine brP_true (len_pos.2 hT) ?_
      refine brP_true (len_pos.2 (by simp)) ?_
      refine PFun.call (gsign_c l _ hl [109, 111, 110, 105, 116, 111, 114] T hok) ?_
      refine brP_split (fun h2 => ?_) (fun h2 => ?_)
      · rw [if_neg (len_pos.1 h2)] at hfo
        refine ⟨by decide, _, rfl, ?_⟩
        refine ⟨_, _, gmon_c hM hl (hmg m List.mem_cons_self) T hok, ?_⟩
        refine ⟨⟨by decide, by simp; omega⟩, RL_mo (m :: ms), ?_⟩
        exact ⟨(ms, [], monF l m T), ⟨pos_mon hM hl (hmg m List.mem_cons_self) T hok, ⟨by dsimp only; rw [List.length_cons] at hml; omega, fun x hx => hmg x (List.mem_cons_of_mem _ hx)⟩, ⟨Nat.zero_le _, by simp⟩, hfo⟩, by show ms.length + [].length < (ms.length + 1) + [].length; omega, Le.same ⟨rfl, rfl, rfl, rfl, trivial⟩⟩
      · rw [if_pos (len_no.1 h2)] at hfo
        refine brP_split (fun h3 => ?_) (fun h3 => ?_)
        · exfalso
          simp [IntKind.wrap_i64] at h3
          simp at hml
          omega
        exact ⟨by rw [← hfo], rfl⟩
    | cons r rs =>
      simp only [gprogF, if_neg hT] at hfo
      refine SWp.go pok (by kernel_rfl) ?_
      refine brP_true (len_pos.2 hT) ?_
      refine brP_true (len_pos.2 (by simp)) ?_
      refine PFun.call (gsign_c l _ hl [109, 111, 110, 105, 116, 111, 114] T hok) ?_
      refine brP_split (fun h2 => ?_) (fun h2 => ?_)
      · rw [if_neg (len_pos.1 h2)] at hfo
        refine ⟨by decide, _, rfl, ?_⟩
        refine ⟨_, _, gmon_c hM hl (hmg m List.mem_cons_self) T hok, ?_⟩
        refine ⟨⟨by decide, by simp; omega⟩, RL_mo (m :: ms), ?_⟩
        exact ⟨(ms, r :: rs, monF l m T), ⟨pos_mon hM hl (hmg m List.mem_cons_self) T hok, ⟨by dsimp only; rw [List.length_cons] at hml; omega, fun x hx => hmg x (List.mem_cons_of_mem _ hx)⟩, ⟨hrl, hrg⟩, by dsimp only; rw [List.length_cons, show ms.length + (rs.length + 1) + 1 = ms.length + 1 + rs.length + 1 by omega]; exact hfo⟩, by show ms.length + (rs.length + 1) < (ms.length + 1) + (rs.length + 1); omega, Le.same ⟨rfl, rfl, rfl, rfl, trivial⟩⟩
      · rw [if_pos (len_no.1 h2)] at hfo
        refine brP_true (len_pos.2 (by simp)) ?_
        refine PFun.call (gsign_c l _ hl [116, 104, 114, 101, 97, 100] T hok) ?_
        refine brP_split (fun h2 => ?_) (fun h2 => ?_)
        · rw [if_neg (len_pos.1 h2)] at hfo
          refine ⟨by decide, _, rfl, ?_⟩
          refine ⟨_, _, grole_c hM hl (hrg r List.mem_cons_self) T hok, ?_⟩
          refine ⟨⟨by decide, by simp; omega⟩, RL_ro (r :: rs), ?_⟩
          exact ⟨(m :: ms, rs, roleF l r T), ⟨pos_role hM hl (hrg r List.mem_cons_self) T hok, ⟨hml, hmg⟩, ⟨by dsimp only; rw [List.length_cons] at hrl; omega, fun x hx => hrg x (List.mem_cons_of_mem _ hx)⟩, hfo⟩, by show (ms.length + 1) + rs.length < (ms.length + 1) + (rs.length + 1); omega, Le.same ⟨rfl, rfl, rfl, rfl, trivial⟩⟩
        · rw [if_pos (len_no.1 h2)] at hfo
          refine brP_split (fun h3 => ?_) (fun h3 => ?_)
          · exfalso
            simp [IntKind.wrap_i64] at h3
            simp at hml hrl
            omega
          exact ⟨by rw [← hfo], rfl⟩
end
theorem newMatcher_c (l : List Tk) : PFun Tryz.prog 20 [.d (.sl (l.map Tk.c))] [] (.ptr 0 0) [.box [.d (.sl (l.map Tk.c)), .map 1], .mp [] []] := by
  refine fn_sem pok 7 0 Tryz.func20 (by kernel_rfl) rfl rfl rfl rfl ?_
  refine SWp.go pok (by kernel_rfl) ?_
  exact ⟨rfl, rfl⟩
def isEnd (t : Tk) : Bool := t.kind == 5
/-- Whether the last token, and no other, is the end. -/
def endedS (l : List Tk) : Bool := decide (idxF isEnd 0 l ≥ 0) && (idxF isEnd 0 l == (l.length : Int) - 1)
theorem idxOfTk_c (g : FuncId) (p : Tk → Bool) (l : List Tk) (h : ∀ a ∈ l, PFun Tryz.prog g [a.v] [] (.d (.bool (p a))) []) (hl : l.length < 1073741824) :
    PFun Tryz.prog 43 [.d (.sl (l.map Tk.c)), .fn (.func g) [] []] [] (iv (idxF p 0 l)) [] := by
  refine fn_sem pok 19 0 Tryz.func43 (by kernel_rfl) rfl rfl rfl rfl ?_
  refine SWp.go pok (by kernel_rfl) ?_
  refine SWp.loop (fun k : Nat => k ≤ l.length ∧ idxF p k (l.drop k) = idxF p 0 l) (fun k => ([(0, .d (.sl (l.map Tk.c))), (1, .fn (.func g) [] []), (7, iv (l.map Tk.c).length), (8, iv k)], [])) (fun k => l.length - k) 0 ⟨Nat.zero_le _, rfl⟩ (Le.same ⟨rfl, rfl, rfl, rfl, trivial⟩) (fun k hk => ?_)
  obtain ⟨hj, hk⟩ := hk
  refine SWp.go pok (by kernel_rfl) ?_
  refine brP_split (fun h2 => ?_) (fun h2 => ?_)
  · have hlt : k < l.length := by simpa using h2
    have hat := idxF_at p hlt
    refine PIdx.map (get_at hlt) ?_
    refine PFun.call (h l[k] (List.getElem_mem hlt)) ?_
    refine brP_split (fun h3 => ?_) (fun h3 => ?_)
    · exact fin1 (dint (by rw [← hk, hat, if_pos h3]))
    · exact ⟨k + 1, ⟨hlt, by rw [← hk, hat, if_neg (by rw [h3]; simp)]⟩, by omega, Le.same ⟨rfl, rfl, rfl, sint (wrap_nat k (by omega)), trivial⟩⟩
  · have hk' : k = l.length := by simp at h2; omega
    exact fin1 (dint (by rw [← hk, List.drop_of_length_le (by omega)]; rfl))
theorem isEnded_c {l : List Tk} (hl : l.length < 1073741824) : PFun Tryz.prog 18 [.d (.sl (l.map Tk.c))] [] (.d (.bool (endedS l))) [] := by
  have hg : ∀ t ∈ l, PFun Tryz.prog 44 [t.v] [] (.d (.bool (isEnd t))) [] := fun t _ => by
    refine fn_sem pok 6 0 Tryz.func44 (by kernel_rfl) rfl rfl rfl rfl ?_
    refine SWp.go pok (by kernel_rfl) ?_
    refine brP_split (fun h3 => ?_) (fun h3 => ?_)
    · exact fin1 (dbool h3.symm)
    · exact fin1 (dbool h3.symm)
  have hidx : IntKind.i64.wrap ((l.length : Int) - 1) = (l.length : Int) - 1 := wrap_in (by unfold R64; omega)
  refine fn_sem pok 15 0 Tryz.func18 (by kernel_rfl) rfl rfl rfl rfl ?_
  refine SWp.go pok (by kernel_rfl) ?_
  refine PFun.call (idxOfTk_c _ isEnd l hg hl) ?_
  unfold endedS
  refine brP_split (fun h => ?_) (fun h => ?_)
  · refine brP_split (fun h2 => ?_) (fun h2 => ?_)
    · rw [List.length_map, hidx] at h2
      exact fin1 (dbool (by rw [h, h2]; rfl))
    · rw [List.length_map, hidx] at h2
      exact fin1 (dbool (by rw [h, h2]; rfl))
  · refine fin1 (dbool ?_)
    rw [h]
    rfl
end Go.Proofs.YtmflfcbebeikcaaGreat.Q

namespace Go.Proofs.YtmflfcbebeikcaaGreat.Q
open Go.RowKit
variable [Amb]
section
variable (hM : @Amb.memo _ = gramMemo) {l : List Tk} (hl : l.length < 1073741824)
theorem checkS_good {e : Ex} (h : checkS e = 0) : e.good := fun x hx => by
  unfold checkS at h
  cases hb : e.pre.all isPartS with
  | true => exact List.all_eq_true.1 hb x hx
  | false => rw [hb] at h; cases h
theorem checkS_two (e : Ex) : checkS e = 0 ∨ checkS e = 20 := by
  unfold checkS
  cases e.pre.all isPartS
  · exact .inr rfl
  · exact .inl rfl
def derivesXS (l : List Tk) (e : Ex) : Bool := endedS l && (checkS e == 0) && derivesE l e
include hM hl
theorem derivesExpr_c {e : Ex} (hx : e.fits) : PFun Tryz.prog 13 [.d (.sl (l.map Tk.c)), e.v] [] (.d (.bool (derivesXS l e))) [] := by
  have hidx : IntKind.i64.wrap ((l.length : Int) - 1) = (l.length : Int) - 1 := wrap_in (by unfold R64; omega)
  refine fn_sem pok 26 0 Tryz.func13 (by kernel_rfl) rfl rfl rfl rfl ?_
  unfold derivesXS
  refine SWp.then pok (by kernel_rfl) ?_
  refine SWp.seq ?_
  refine SWp.go pok (by kernel_rfl) ?_
  refine PFun.call (isEnded_c hl) ?_
  refine brP_split (fun h => ?_) (fun h => ?_)
  · refine fin1 (dbool ?_)
    have h : endedS l = false := by simpa using h
    rw [h]; rfl
  have h : endedS l = true := by simpa using h
  rw [h]
  refine PFun.call (checkExpr_c e hx) ?_
  rcases checkS_two e with hc | hc
  · have he : e.fine := ⟨checkS_good hc, fun y hy => (hx.2 y hy).1⟩
    rw [hc]
    refine SWp.then pok (by kernel_rfl) ?_
    refine PFun.call (newMatcher_c l) ?_
    refine SWp.toMemoB 2 0 rfl rfl ?_
    refine SWp.frz 1 rfl rfl ?_
    refine SWp.go pok (by kernel_rfl) ?_
    refine PFun.call (free_c l he) ?_
    refine PFun.call (at1_m l e 1 [0] fun i hi => expr_all hM hl _ e (Nat.le_refl _) he.good 1 (Int.le_refl 1) i (by simp at hi; omega)) ?_
    refine fin1 (dbool ?_)
    rw [List.length_map, hidx]
    rfl
  · rw [hc]
    exact ⟨rfl, rfl⟩
end
end Go.Proofs.YtmflfcbebeikcaaGreat.Q
