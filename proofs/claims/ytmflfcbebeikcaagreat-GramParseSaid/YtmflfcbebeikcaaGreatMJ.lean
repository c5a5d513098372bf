/- Programs: derivations as relations; what is derived is parsed, what is parsed is derived. No condition. -/
import Derived.Test.YtmflfcbebeikcaaGreatMH
import Derived.Test.YtmflfcbebeikcaaGreatMF
import Derived.Test.YtmflfcbebeikcaaGreatME
import Derived.Test.YtmflfcbebeikcaaGreatMI
set_option linter.unusedVariables false
set_option linter.unusedSectionVars false
set_option linter.unnecessarySimpa false
set_option linter.unusedSimpArgs false
set_option maxRecDepth 100000
set_option maxHeartbeats 4000000
namespace Go.Proofs.YtmflfcbebeikcaaGreat.Q
open Go.RowKit
variable [Amb]
abbrev wR (s : Str) : TR := one (isS s)
abbrev nR (s : Str) : TR := one (isN s)
abbrev iR (n : Int) : TR := one (isI n)
def freeR (e : Ex) : TR := fun ts => ∃ d, DE 1 ts e d
def pairR (a b : Str) : TR := seqR [nR a, wR [46], nR b]
def orR (R Q : TR) : TR := fun ts => R ts ∨ Q ts
def blkR (Rs : List TR) : TR := then2 (then2 (wR [123]) (seqR Rs)) (wR [125])
def blksR (w : Str) : Nat → List TR → TR
  | _, [] => fun ts => ts = []
  | i, R :: r => then2 (then2 (if 0 < i then wR w else seqR []) R) (blksR w (i + 1) r)
def stRB (kind : Int) (mon name : Str) (n : Int) (e : Ex) (bs : List TR) : TR :=
  if kind = 1 then seqR [wR [115, 107, 105, 112], wR [59]]
  else if kind = 2 then seqR [pairR mon name, wR [61], freeR e, wR [59]]
  else if kind = 3 then seqR [wR [105, 102], freeR e, blksR [101, 108, 115, 101] 0 bs]
  else if kind = 4 then seqR [wR [119, 104, 105, 108, 101], freeR e, blksR [] 0 bs]
  else if kind = 5 then seqR [wR [108, 111, 111, 112], blksR [] 0 bs]
  else if kind = 6 then seqR [wR [99, 104, 111, 111, 115, 101], blksR [111, 114] 0 bs]
  else if kind = 7 then seqR [wR [115, 121, 110, 99], nR mon, blksR [] 0 bs]
  else if kind = 8 then seqR [wR [99, 97, 108, 108], pairR mon name, wR [59]]
  else if kind = 10 then seqR [wR [110, 111, 116, 105, 102, 121], nR mon, wR [59]]
  else if kind = 11 then seqR [wR [110, 111, 116, 105, 102, 121, 97, 108, 108], nR mon, wR [59]]
  else then2 (then2 (seqR [wR [119, 97, 105, 116], nR mon]) (if 0 < n then iR n else seqR [])) (wR [59])
mutual
def stR : St → TR
  | ⟨kind, mon, name, n, e, blocks, _⟩ => stRB kind mon name n e (stRss blocks)
def stRss : List (List St) → List TR
  | [] => []
  | b :: r => blkR (stRs b) :: stRss r
def stRs : List St → List TR
  | [] => []
  | x :: r => stR x :: stRs r
end
theorem stRs_map : ∀ xs : List St, stRs xs = xs.map stR
  | [] => by rw [stRs]; rfl
  | x :: r => by rw [stRs, stRs_map r]; rfl
def bodyR (b : List St) : TR := blkR (b.map stR)
theorem stRss_map : ∀ bs : List (List St), stRss bs = bs.map bodyR
  | [] => by rw [stRss]; rfl
  | b :: r => by rw [stRss, stRss_map r, stRs_map]; rfl
theorem stR_eq (x : St) : stR x = stRB x.kind x.mon x.name x.n x.e (x.blocks.map bodyR) := by
  cases x; rw [stR, stRss_map]
def wholeR (n : Int) : TR := orR (iR n) (then2 (wR [45]) (iR (IntKind.i64.wrap (0 - n))))
def typeR (v : Vr) : TR := if v.type = 2 then wR [105, 110, 116] else seqR [wholeR v.lo, wR [46, 46], wholeR v.hi]
def varR (v : Vr) : TR := then2 (seqR [wR [118, 97, 114], nR v.name, wR [58]])
  (if v.type = 1 then seqR [wR [98, 111, 111, 108], wR [61], wR (if v.init = 1 then [116, 114, 117, 101] else [102, 97, 108, 115, 101]), wR [59]]
  else then2 (typeR v) (seqR [wR [61], wholeR v.init, wR [59]]))
def mtR' (m : Mt) : TR := seqR [wR [109, 101, 116, 104, 111, 100], nR m.name, bodyR m.body]
def monR (m : Mo) : TR := then2 (then2 (then2 (seqR [wR [109, 111, 110, 105, 116, 111, 114], nR m.name, wR [123]]) (seqR (m.vars.map varR))) (seqR (m.methods.map mtR'))) (wR [125])
def roleR (r : Ro) : TR := then2 (then2 (seqR [wR [116, 104, 114, 101, 97, 100], nR r.name]) (if r.star = true then wR [42] else iR r.count)) (bodyR r.body)
/-! ### the sets say so -/
section
variable {l : List Tk}
theorem spec_then' {f g h : PS} {R Q : TR} (hf : SpecS l f R) (hg : SpecS l g Q) (e : ∀ S, h S = g (f S)) : SpecS l h (then2 R Q) := by
  have : h = fun S => g (f S) := funext e
  rw [this]
  exact spec_then hf hg
theorem spec_fold : ∀ {fs : List PS} {Rs : List TR}, AllS l fs Rs → SpecS l (foldF fs) (seqR Rs)
  | [], [], _ => spec_id l
  | f :: fs, R :: Rs, h => by
    cases h with
    | cons h1 h2 => exact spec_then' h1 (spec_fold h2) fun _ => rfl
theorem allS_map {α : Type} {f : α → PS} {R : α → TR} : ∀ {xs : List α}, (∀ x ∈ xs, SpecS l (f x) (R x)) → AllS l (xs.map f) (xs.map R)
  | [], _ => .nil
  | x :: r, h => .cons (h x List.mem_cons_self) (allS_map fun y hy => h y (List.mem_cons_of_mem _ hy))
theorem spec_blk {fs : List PS} {Rs : List TR} (h : AllS l fs Rs) : SpecS l (blkF l fs) (blkR Rs) :=
  spec_then' (spec_then (spec_step l (isS [123])) (spec_fold h)) (spec_step l (isS [125])) fun _ => rfl
theorem spec_blks (w : Str) : ∀ {fs : List PS} {Rs : List TR} (i : Nat), AllS l fs Rs → SpecS l (blksF l w i fs) (blksR w i Rs)
  | [], [], i, _ => spec_id l
  | f :: fs, R :: Rs, i, h => by
    cases h with
    | cons h1 h2 =>
      have hw : SpecS l (fun S => if 0 < i then wS l w S else S) (if 0 < i then wR w else seqR []) := by
        by_cases hi : 0 < i
        · simp only [if_pos hi]; exact spec_step l (isS w)
        · simp only [if_neg hi]; exact spec_id l
      exact spec_then' (spec_then hw h1) (spec_blks w (i + 1) h2) fun _ => rfl
theorem spec_un {f g : PS} {R Q : TR} (hf : SpecS l f R) (hg : SpecS l g Q) : SpecS l (fun S => unS (f S) (g S)) (orR R Q) := fun S hS j => by
  rw [mem_unS, hf S hS j, hg S hS j]
  constructor
  · rintro (⟨a, h1, ts, h2, h3, h4⟩ | ⟨a, h1, ts, h2, h3, h4⟩)
    · exact ⟨a, h1, ts, h2, .inr h3, h4⟩
    · exact ⟨a, h1, ts, h2, .inl h3, h4⟩
  · rintro ⟨a, h1, ts, h2, h3 | h3, h4⟩
    · exact .inr ⟨a, h1, ts, h2, h3, h4⟩
    · exact .inl ⟨a, h1, ts, h2, h3, h4⟩
theorem spec_free {e : Ex} (hg : e.good) : SpecS l (freeF l e) (freeR e) := spec_at (spec_E l _ e (Nat.le_refl _) hg 1 (Nat.le_refl 1))
theorem spec_pair (a b : Str) : SpecS l (pairF l a b) (pairR a b) := spec_row (.cons (spec_step l _) (.cons (spec_step l _) (.cons (spec_step l _) .nil)))
theorem spec_whole (n : Int) : SpecS l (wholeF l n) (wholeR n) := spec_un (spec_step l _) (spec_then' (spec_step l _) (spec_step l _) fun _ => rfl)
theorem spec_st {s : St} (hs : StG s) : SpecS l (stF l s) (stR s) := by
  induction hs with
  | @mk kind mon name n e blocks pl he hb hbl k hst =>
  have hbs : AllS l (blocks.map (bodyF l)) (blocks.map bodyR) := allS_map fun b hb' => spec_blk (allS_map fun y hy => hst b hb' y hy)
  have bl := fun w => spec_blks (l := l) w 0 hbs
  have st := spec_step l
  rw [stF_eq, stR_eq]
  dsimp only
  unfold stB stRB
  by_cases h1 : kind = 1
  · simp only [if_pos h1]; exact spec_row (.cons (st _) (.cons (st _) .nil))
  simp only [if_neg h1]
  by_cases h2 : kind = 2
  · simp only [if_pos h2]; exact spec_row (.cons (spec_pair _ _) (.cons (st _) (.cons (spec_free (he (.inl h2)).good) (.cons (st _) .nil))))
  simp only [if_neg h2]
  by_cases h3 : kind = 3
  · simp only [if_pos h3]; exact spec_row (.cons (st _) (.cons (spec_free (he (.inr (.inl h3))).good) (.cons (bl _) .nil)))
  simp only [if_neg h3]
  by_cases h4 : kind = 4
  · simp only [if_pos h4]; exact spec_row (.cons (st _) (.cons (spec_free (he (.inr (.inr h4))).good) (.cons (bl _) .nil)))
  simp only [if_neg h4]
  by_cases h5 : kind = 5
  · simp only [if_pos h5]; exact spec_row (.cons (st _) (.cons (bl _) .nil))
  simp only [if_neg h5]
  by_cases h6 : kind = 6
  · simp only [if_pos h6]; exact spec_row (.cons (st _) (.cons (bl _) .nil))
  simp only [if_neg h6]
  by_cases h7 : kind = 7
  · simp only [if_pos h7]; exact spec_row (.cons (st _) (.cons (st _) (.cons (bl _) .nil)))
  simp only [if_neg h7]
  by_cases h8 : kind = 8
  · simp only [if_pos h8]; exact spec_row (.cons (st _) (.cons (spec_pair _ _) (.cons (st _) .nil)))
  simp only [if_neg h8]
  by_cases h10 : kind = 10
  · simp only [if_pos h10]; exact spec_row (.cons (st _) (.cons (st _) (.cons (st _) .nil)))
  simp only [if_neg h10]
  by_cases h11 : kind = 11
  · simp only [if_pos h11]; exact spec_row (.cons (st _) (.cons (st _) (.cons (st _) .nil)))
  simp only [if_neg h11]
  have hn : SpecS l (if 0 < n then iS l n else fun S => S) (if 0 < n then iR n else seqR []) := by
    by_cases hn : 0 < n
    · simp only [if_pos hn]; exact st _
    · simp only [if_neg hn]; exact spec_id l
  exact spec_then' (spec_then (spec_row (.cons (st _) (.cons (st _) .nil))) hn) (st _) fun _ => rfl
theorem spec_body {b : List St} (h : BdG b) : SpecS l (bodyF l b) (bodyR b) := spec_blk (allS_map fun y hy => spec_st (h.st y hy))
theorem spec_var (v : Vr) : SpecS l (varF l v) (varR v) := by
  have st := spec_step l
  have h0 : SpecS l (rowF [wS l [118, 97, 114], nS l v.name, wS l [58]]) (seqR [wR [118, 97, 114], nR v.name, wR [58]]) := spec_row (.cons (st _) (.cons (st _) (.cons (st _) .nil)))
  have ht : SpecS l (typeF l v) (typeR v) := by
    unfold typeF typeR
    by_cases h : v.type = 2
    · simp only [if_pos h]; exact st _
    · simp only [if_neg h]; exact spec_row (.cons (spec_whole _) (.cons (st _) (.cons (spec_whole _) .nil)))
  unfold varF varR
  dsimp only
  by_cases h : v.type = 1
  · simp only [if_pos h]
    exact spec_then' h0 (spec_row (.cons (st _) (.cons (st _) (.cons (st _) (.cons (st _) .nil))))) fun _ => rfl
  · simp only [if_neg h]
    exact spec_then' h0 (spec_then ht (spec_row (.cons (st _) (.cons (spec_whole _) (.cons (st _) .nil))))) fun _ => rfl
theorem spec_mt {m : Mt} (h : BdG m.body) : SpecS l (mtF l m) (mtR' m) := spec_row (.cons (spec_step l _) (.cons (spec_step l _) (.cons (spec_body h) .nil)))
theorem spec_mon {m : Mo} (h : MoG m) : SpecS l (monF l m) (monR m) :=
  spec_then' (spec_then (spec_then (spec_row (.cons (spec_step l _) (.cons (spec_step l _) (.cons (spec_step l _) .nil)))) (spec_fold (allS_map fun v _ => spec_var v))) (spec_fold (allS_map fun f hf => spec_mt (h.body f hf)))) (spec_step l _) fun _ => rfl
theorem spec_role {r : Ro} (h : BdG r.body) : SpecS l (roleF l r) (roleR r) := by
  have hn : SpecS l (fun S => (if r.star = true then wS l [42] else iS l r.count) S) (if r.star = true then wR [42] else iR r.count) := by
    by_cases hn : r.star = true
    · simp only [if_pos hn]; exact spec_step l _
    · simp only [if_neg hn]; exact spec_step l _
  exact spec_then' (spec_then (spec_row (.cons (spec_step l _) (.cons (spec_step l _) .nil))) hn) (spec_body h) fun _ => rfl
end
end Go.Proofs.YtmflfcbebeikcaaGreat.Q

namespace Go.Proofs.YtmflfcbebeikcaaGreat.Q
open Go.RowKit
variable [Amb]
theorem bad_enter {r : Rd} (h : r.code ≠ 0) : r.enter.code ≠ 0 := by
  have h1 : (r.more 1).code ≠ 0 := h
  unfold Rd.enter Rd.deep
  split
  · rw [bad_fail h, bad_take h1]; exact h1
  · rw [bad_take h1]; exact h1
theorem bad_wait {r : Rd} (h : r.code ≠ 0) : r.wait.2 = r := by unfold Rd.wait; rw [bad_next h, if_neg (by decide)]
theorem bad_set {r : Rd} (h : r.code ≠ 0) : r.set_.2 = r := by
  unfold Rd.set_
  dsimp only
  have h1 := bad_pair h
  rw [h1, bad_must h]
  have h2 : r.expr.2 = r := bad_bin h 0
  rw [h2, bad_must h]
theorem bad_simple {r : Rd} (h : r.code ≠ 0) (k pl : Int) : (r.simple k pl).2 = r := by
  unfold Rd.simple
  have h1 := bad_pair h
  have h2 : r.name.2 = r := by rw [bad_name h]
  split
  · dsimp only; rw [h1, bad_must h]
  split
  · dsimp only; rw [h2, bad_wait h, bad_must h]
  split
  · dsimp only; rw [h2, bad_must h]
  · dsimp only; rw [bad_must h]
theorem bad_head {r : Rd} (h : r.code ≠ 0) (k : Int) : (r.head k).2 = r := by
  unfold Rd.head
  have h2 : r.name.2 = r := by rw [bad_name h]
  split
  · exact bad_bin h 0
  split
  · exact h2
  · rfl
theorem bad_block {r : Rd} (h : r.code ≠ 0) : r.block.2 = r := by
  rw [show r.block = blockF (8 * r.m + 2 + 1) r from rfl, blockF, if_neg (bad_is h _), bad_fail h]
theorem bad_ors {r : Rd} (h : r.code ≠ 0) (l : List (List St)) : r.ors l = (l, r) := by
  rw [show r.ors l = orF (8 * r.m + 3 + 1) l r from rfl, orF, if_neg (bad_is h _)]
theorem bad_stmts {r : Rd} (h : r.code ≠ 0) (l : List St) : r.stmts l = (l, r) := by
  rw [show r.stmts l = stmtsF (8 * r.m + 1 + 1) l r from rfl, stmtsF, if_neg (fun k => h k.1)]
theorem bad_may {r : Rd} (h : r.code ≠ 0) (s : Str) : r.may s = (false, r) := by unfold Rd.may; rw [if_neg (bad_is h s)]
theorem bad_fin {r : Rd} (h : r.code ≠ 0) : r.fin.2 = r := by
  unfold Rd.fin
  dsimp only
  rw [bad_must h, bad_whole h, bad_must h]
theorem bad_bol {r : Rd} (h : r.code ≠ 0) : r.bol.2 = r := by
  unfold Rd.bol
  rw [bad_must h, if_neg (bad_is h _)]
  dsimp only
  rw [bad_must h, bad_must h]
theorem bad_rng {r : Rd} (h : r.code ≠ 0) : r.rng.2 = r := by
  unfold Rd.rng
  dsimp only
  rw [bad_whole h, bad_must h, bad_whole h, if_neg (fun k => h k.2)]
theorem bad_var {r : Rd} (h : r.code ≠ 0) : r.var.2 = r := by
  have h2 : r.name.2 = r := by rw [bad_name h]
  unfold Rd.var
  rw [h2, bad_must h, if_neg (bad_is h _), if_neg (bad_is h _)]
  dsimp only
  rw [bad_rng h, bad_fin h]
theorem bad_vars {r : Rd} (h : r.code ≠ 0) (f : Nat) (acc : List Vr) : varsF f acc r = (acc, r) := by
  cases f with
  | zero => rfl
  | succ f => rw [varsF, if_neg (bad_is h _)]
theorem bad_meth {r : Rd} (h : r.code ≠ 0) : r.meth.2 = r := by
  have h2 : r.name.2 = r := by rw [bad_name h]
  unfold Rd.meth
  dsimp only
  rw [h2, bad_block h]
theorem bad_meths {r : Rd} (h : r.code ≠ 0) (f : Nat) (acc : List Mt) : methsF f acc r = (acc, r) := by
  cases f with
  | zero => rfl
  | succ f => rw [methsF, if_neg (bad_is h _)]
theorem bad_monB {r : Rd} (h : r.code ≠ 0) : r.monB.2 = r := by
  have h1 : r.vars = ([], r) := bad_vars h _ _
  have h2 : r.meths = ([], r) := bad_meths h _ _
  unfold Rd.monB
  rw [h1]
  dsimp only
  rw [h2]
  dsimp only
  rw [bad_must h]
theorem bad_mon {r : Rd} (h : r.code ≠ 0) : r.mon.2 = r := by
  have h2 : r.name.2 = r := by rw [bad_name h]
  unfold Rd.mon
  rw [h2, if_neg (bad_is h _)]
  exact bad_fail h 40
theorem bad_cnt {r : Rd} (h : r.code ≠ 0) : r.cnt.2 = r := by
  unfold Rd.cnt
  rw [bad_next h, if_neg (by decide)]
  exact bad_must h _
theorem bad_role {r : Rd} (h : r.code ≠ 0) : r.role.2 = r := by
  have h2 : r.name.2 = r := by rw [bad_name h]
  unfold Rd.role
  dsimp only
  rw [h2, bad_cnt h, bad_block h]
theorem bad_prog {r : Rd} (h : r.code ≠ 0) (f : Nat) (l : List Mo) (k : List Ro) : progF f l k r = ((l, k), r) := by
  cases f with
  | zero => rfl
  | succ f => rw [progF, if_neg (fun e => h e.1)]
theorem rd_may {a o : Int} {t : Tk} {l : List Tk} {s : Str} (hl : l ≠ []) (h : t.sg s) : (rd a o (t :: l)).may s = (true, rd a o l) := by
  unfold Rd.may
  rw [if_pos ((rd_is a o t l s).2 h), rd_take a o t hl]
theorem rd_may' {a o : Int} {t : Tk} {l : List Tk} {s : Str} (h : ¬ t.sg s) : (rd a o (t :: l)).may s = (false, rd a o (t :: l)) := by
  unfold Rd.may
  rw [if_neg fun k => h ((rd_is a o t l s).1 k)]
theorem nu_no {t : Tk} {n : Int} (h : t.nu n) (s : Str) : ¬ t.sg s := fun k => by have := h.1; have := k.1; omega
theorem sg_not {t : Tk} {w s : Str} (h : t.sg w) (hs : s ≠ w) : ¬ t.sg s := fun k => hs (k.2.symm.trans h.2)
theorem is_not {a o : Int} {t : Tk} {l : List Tk} {s : Str} (h : ¬ t.sg s) : ¬ (rd a o (t :: l)).is s = true := fun k => h ((rd_is a o t l s).1 k)
theorem is_yes {a o : Int} {t : Tk} {l : List Tk} {s : Str} (h : t.sg s) : (rd a o (t :: l)).is s = true := (rd_is a o t l s).2 h
def noW (w : Str) (l : List Tk) : Prop := ∀ t ∈ l.head?, ¬ t.sg w
theorem noW_is {w : Str} {a o : Int} {l : List Tk} (hl : l ≠ []) (h : noW w l) : ¬ (rd a o l).is w = true := by
  cases l with
  | nil => exact absurd rfl hl
  | cons t l => exact is_not (h t rfl)
theorem room_ok {r : Rd} {n most : Int} (h : n < most) : r.room n most = r := by unfold Rd.room; rw [if_neg (by omega)]
end Go.Proofs.YtmflfcbebeikcaaGreat.Q

namespace Go.Proofs.YtmflfcbebeikcaaGreat.Q
open Go.RowKit
variable [Amb]
/-- No sign is a word of a statement. -/
def KW (l : List Tk) : Prop := ∀ t ∈ l, t.kind = 4 → kindOf t.text = 0
theorem KW.tail {t : Tk} {l : List Tk} (h : KW (t :: l)) : KW l := fun u hu => h u (List.mem_cons_of_mem _ hu)
theorem KW.drop {ts l : List Tk} (h : KW (ts ++ l)) : KW l := fun u hu => h u (List.mem_append_right _ hu)
/-- Nothing that goes on with a statement is next. -/
def noEl (l : List Tk) : Prop := ∀ t ∈ l.head?, ¬ t.sg [101, 108, 115, 101] ∧ ¬ t.sg [111, 114]
/-- A statement's first token. -/
def hdS (t : Tk) : Prop := t.kind = 1 ∨ (t.kind = 3 ∨ t.kind = 4) ∧ kindOf t.text ≠ 0
theorem hdS.no {t : Tk} (h : hdS t) {s : Str} (hs : kindOf s = 0) : ¬ t.sg s := fun k => by
  rcases h with h | ⟨_, h⟩
  · have := k.1; omega
  · rw [k.2] at h; exact h hs
theorem kind_no : kindOf [101, 108, 115, 101] = 0 ∧ kindOf [111, 114] = 0 ∧ kindOf [125] = 0 := ⟨by kernel_rfl, by kernel_rfl, by kernel_rfl⟩
theorem noEl_hd {t : Tk} {l : List Tk} (h : hdS t) : noEl (t :: l) := fun u hu => by
  simp at hu; subst hu
  exact ⟨h.no kind_no.1, h.no kind_no.2.1⟩
theorem noEl_sg {t : Tk} {s : Str} {l : List Tk} (h : t.sg s) (h1 : s ≠ [101, 108, 115, 101]) (h2 : s ≠ [111, 114]) : noEl (t :: l) := fun u hu => by
  simp at hu; subst hu
  exact ⟨fun k => h1 (h.2.symm.trans k.2), fun k => h2 (h.2.symm.trans k.2)⟩
theorem hd_sg {t : Tk} {w : Str} (h : t.sg w) (hk : kindOf w ≠ 0) : hdS t := .inr ⟨h.1, by rw [h.2]; exact hk⟩
theorem bad41 {r : Rd} (h : r.code = 41) : r.code ≠ 0 := by rw [h]; decide
/-! ### a statement's word -/
theorem stmt_sg {a o : Int} {t : Tk} {l : List Tk} {w : Str} {k : Int} (hl : Tl (t :: l)) (hw : KW (t :: l)) (h0 : 0 ≤ o) (h1 : o ≤ 64) (ht : t.sg w) (hne : l ≠ []) (hk : kindOf w = k) (hk0 : k ≠ 0) :
    (rd a o (t :: l)).stmt = if 3 ≤ k ∧ k ≤ 7 then (rd a o l).comp k t.pl else (rd a o l).simple k t.pl := by
  have h3 : t.kind = 3 := by
    rcases ht.1 with h | h
    · exact h
    · have := hw t List.mem_cons_self h
      rw [ht.2, hk] at this
      exact absurd this hk0
  rw [Rd.stmt_eq (hl.ok h0 h1), rd_next, ht.2, hk, if_neg (by rw [h3]; decide), if_neg (by rintro (h | h); exact h h3; exact hk0 h), rd_take a o t hne]
theorem er_none {e : Ex} (h : e.op = 0 ∧ e.mon = [] ∧ e.name = [] ∧ e.n = 0 ∧ e.kids = []) : ex0.er = e.er := by
  obtain ⟨h1, h2, h3, h4, h5⟩ := h
  rw [Ex.er_eq, Ex.er_eq e, h1, h2, h3, h4, h5]
  rfl
theorem st_er {kind n pl pl' : Int} {mon name : Str} {e e' : Ex} {bs bs' : List (List St)} (he : e'.er = e.er) (hb : bs'.map (List.map St.er) = bs.map (List.map St.er)) : (St.mk kind mon name n e' bs' pl').er = (St.mk kind mon name n e bs pl).er := by
  rw [St.er_eq, St.er_eq]
  dsimp only
  rw [he, hb]
/-! ### what is to be shown -/
def SA (y : St) : Prop := ∀ ts, stR y ts → ∃ t ts', ts = t :: ts' ∧ hdS t ∧ ∀ (a o : Int) (vs : List Tk), 0 ≤ o → o ≤ 64 → vs ≠ [] → noEl vs → KW (ts ++ vs) → Tl (ts ++ vs) →
  (∃ y' : St, y'.er = y.er ∧ (rd a o (ts ++ vs)).stmt = (y', rd a o vs)) ∨ (rd a o (ts ++ vs)).stmt.2.code = 41
def LA (l : List St) : Prop := ∀ ts, seqR (l.map stR) ts → (∀ t ∈ ts.head?, hdS t) ∧ ∀ (a o : Int) (acc : List St) (vs : List Tk), 0 ≤ o → o ≤ 64 → vs ≠ [] → noEl vs → KW (ts ++ vs) → Tl (ts ++ vs) →
  (∃ l' : List St, l'.map St.er = l.map St.er ∧ (rd a o (ts ++ vs)).stmts acc = (rd a o vs).stmts (acc ++ l')) ∨ ((rd a o (ts ++ vs)).stmts acc).2.code = 41
def BA (b : List St) : Prop := ∀ ts, bodyR b ts → ∃ t ts', ts = t :: ts' ∧ t.sg [123] ∧ ∀ (a o : Int) (vs : List Tk), 0 ≤ o → o ≤ 64 → vs ≠ [] → KW (ts ++ vs) → Tl (ts ++ vs) →
  (∃ b' : List St, b'.map St.er = b.map St.er ∧ (rd a o (ts ++ vs)).block = (b', rd a o vs)) ∨ (rd a o (ts ++ vs)).block.2.code = 41
theorem exprA {e : Ex} {ts : List Tk} (h : freeR e ts) {a o : Int} {vs : List Tk} (h0 : 0 ≤ o) (h1 : o ≤ 64) (hv : vs ≠ []) (hl : Tl (ts ++ vs)) (hn : nop 0 vs) :
    (∃ e' : Ex, e'.er = e.er ∧ (rd a o (ts ++ vs)).expr = (e', rd a o vs)) ∨ (rd a o (ts ++ vs)).expr.2.code = 41 := by
  obtain ⟨d, h⟩ := h
  obtain ⟨g1, g2⟩ := h.expr a h0 h1 hv hl hn
  by_cases hd : o + d ≤ 64
  · exact .inl (g1 hd)
  · exact .inr (g2 (by omega)).1
theorem freeR_ne {e : Ex} {ts : List Tk} (h : freeR e ts) : ts ≠ [] := by obtain ⟨d, h⟩ := h; exact fun e => by subst e; exact absurd h.ne (by simp)
theorem LA.all : ∀ {l : List St}, (∀ y ∈ l, SA y) → LA l
  | [], _ => fun ts h => by
    have h : ts = [] := h
    subst h
    exact ⟨by simp, fun a o acc vs _ _ _ _ _ _ => .inl ⟨[], rfl, by simp⟩⟩
  | y :: r, h => fun ts hts => by
    obtain ⟨u, v, rfl, hu, hv⟩ := hts
    obtain ⟨t, u', rfl, ht, hA⟩ := h y List.mem_cons_self u hu
    obtain ⟨g1, g2⟩ := LA.all (fun z hz => h z (List.mem_cons_of_mem _ hz)) v hv
    refine ⟨fun s hs => by simp at hs; subst hs; exact ht, fun a o acc vs h0 h1 hne hno hw hl => ?_⟩
    rw [List.append_assoc] at hw hl ⊢
    have hne2 : v ++ vs ≠ [] := by simp [hne]
    have hn2 : noEl (v ++ vs) := by
      cases v with
      | nil => exact hno
      | cons x q => exact noEl_hd (g1 x rfl)
    have hok := hl.ok (a := a) h0 h1
    have heq : (rd a o (t :: u' ++ (v ++ vs))).stmts acc = (rd a o (t :: u' ++ (v ++ vs))).stmt.2.stmts (acc ++ [(rd a o (t :: u' ++ (v ++ vs))).stmt.1]) := by
      rw [Rd.stmts_eq hok, if_pos ⟨rfl, fun hi => ht.no kind_no.2.2 ((rd_is a o t _ _).1 hi)⟩]
    rcases hA a o (v ++ vs) h0 h1 hne2 hn2 hw hl with ⟨y', e1, e2⟩ | hb
    · rw [heq, e2]
      dsimp only
      rcases g2 a o (acc ++ [y']) vs h0 h1 hne hno hw.drop (hl.drop hne2) with ⟨l', f1, f2⟩ | hb
      · exact .inl ⟨y' :: l', by rw [List.map_cons, List.map_cons, e1, f1], by rw [f2]; simp⟩
      · exact .inr hb
    · rw [heq, bad_stmts (bad41 hb)]
      exact .inr hb
theorem stmts_end {a o : Int} {u : Tk} {l : List Tk} (hl : Tl (u :: l)) (h0 : 0 ≤ o) (h1 : o ≤ 64) (hu : u.sg [125]) (acc : List St) : (rd a o (u :: l)).stmts acc = (acc, rd a o (u :: l)) := by
  rw [Rd.stmts_eq (hl.ok h0 h1), if_neg fun h => h.2 ((rd_is a o u l _).2 hu)]
theorem LA.block {b : List St} (h : LA b) : BA b := by
  rintro ts ⟨_, _, rfl, ⟨_, ts, rfl, ⟨t, rfl, ht⟩, hts⟩, u, rfl, hu⟩
  have t1 := isS_sg.1 ht
  have u1 := isS_sg.1 hu
  refine ⟨t, ts ++ [u], by simp, t1, fun a o vs h0 h1 hv hw hl => ?_⟩
  have el : [t] ++ ts ++ [u] ++ vs = t :: (ts ++ (u :: vs)) := by simp
  rw [el] at hw hl ⊢
  have hne : ts ++ u :: vs ≠ [] := by simp
  have hl1 := hl.tail hne
  have hl2 := hl1.drop (ts := ts) (by simp)
  rw [Rd.block_eq (hl.ok h0 h1), if_pos ((rd_is a o t _ _).2 t1)]
  by_cases ho : o < 64
  · rw [rd_enter a t hne ho]
    rcases (h ts hts).2 a (o + 1) [] (u :: vs) (by omega) (by omega) (by simp) (noEl_sg u1 (by decide) (by decide)) hw.tail hl1 with ⟨l', e1, e2⟩ | hb
    · refine .inl ⟨l', e1, ?_⟩
      rw [e2, stmts_end hl2 (by omega) (by omega) u1, List.nil_append, rd_must a _ hv u1, rd_leave]
    · refine .inr ?_
      show (((rd a (o + 1) (ts ++ u :: vs)).stmts []).2.must [125]).leave.code = 41
      rw [bad_must (bad41 hb)]
      exact hb
  · have he := (rd_enter_deep (o := o) a t (ts ++ u :: vs) (by omega)).1
    refine .inr ?_
    show (((rd a o (t :: (ts ++ u :: vs))).enter.stmts []).2.must [125]).leave.code = 41
    rw [bad_stmts (bad41 he), bad_must (bad41 he)]
    exact he
end Go.Proofs.YtmflfcbebeikcaaGreat.Q

namespace Go.Proofs.YtmflfcbebeikcaaGreat.Q
open Go.RowKit
variable [Amb]
theorem dig_class {b : UInt8} (h : isDig b.toNat = true) : classS b.toNat = 4 := by
  unfold isDig at h
  simpa using h
/-- A token as the scanner gives them. -/
def GoodT (t : Tk) : Prop := (t.kind = 1 → isName t.text = true) ∧ (t.kind = 2 → 0 ≤ t.n ∧ t.n < 9223372036854775808)
def GoodL (l : List Tk) : Prop := ∀ t ∈ l, GoodT t
theorem GoodL.tail {t : Tk} {l : List Tk} (h : GoodL (t :: l)) : GoodL l := fun u hu => h u (List.mem_cons_of_mem _ hu)
theorem GoodL.drop {ts l : List Tk} (h : GoodL (ts ++ l)) : GoodL l := fun u hu => h u (List.mem_append_right _ hu)
theorem GoodL.take {ts l : List Tk} (h : GoodL (ts ++ l)) : GoodL ts := fun u hu => h u (List.mem_append_left _ hu)
theorem digS_pos : ∀ (l : Str) (n v : Int), 0 ≤ n → n < 9223372036854775808 → (∀ b ∈ l, isDig b.toNat = true) → digS n l = some v → 0 ≤ v ∧ v < 9223372036854775808
  | [], n, v, h0, h1, _, h => by rw [digS] at h; injection h with h; omega
  | b :: r, n, v, h0, h1, hd, h => by
    rw [digS] at h
    split at h
    · cases h
    · rename_i hle
      have hb := hd b (by simp)
      have hbb : 48 ≤ b.toNat ∧ b.toNat ≤ 57 := by
        have hc := dig_class hb
        unfold classS at hc
        split at hc
        · omega
        split at hc
        · omega
        split at hc
        · omega
        split at hc
        · omega
        split at hc
        · omega
        split at hc
        · omega
        split at hc
        · omega
        split at hc
        · omega
        · split at hc <;> omega
      have hq : n ≤ (9223372036854775807 - ((b.toNat : Int) - 48)).tdiv 10 := by omega
      rw [Int.tdiv_eq_ediv_of_nonneg (by omega)] at hq
      exact digS_pos r _ v (by omega) (by omega) (fun c hc => hd c (List.mem_cons_of_mem _ hc)) h
theorem spanN_dig {p : Int → Bool} : ∀ {l : Str}, spanN p l = l.length → ∀ b ∈ l, p b.toNat = true
  | [], _, b, hb => by simp at hb
  | c :: l, h, b, hb => by
    rw [spanN] at h
    split at h
    · rename_i hc
      rcases List.mem_cons.1 hb with rfl | hb
      · exact hc
      · exact spanN_dig (by simpa using h) b hb
    · simp at h
theorem tok_good {k v : Int} {x : Str} {a : Int} (h : isTok k x v) : GoodT ⟨k, x, v, a⟩ := by
  obtain ⟨hx, h⟩ := h
  unfold stepT at h
  refine ⟨fun hk => ?_, fun hk => ?_⟩
  · have hk : k = 1 := hk
    subst hk
    split at h
    · exact absurd (congrArg (fun q => q.2.2) h) (by simp)
    split at h
    · exact absurd (congrArg (fun q => q.2.2) h) (by simp)
    split at h
    · rename_i h3
      split at h
      · exact absurd (congrArg (fun q => q.2.2) h) (by simp)
      · rename_i h32
        have hs : spanN inNameS x = x.length := by
          split at h <;> exact congrArg (fun q => q.2.1) h
        rw [hs, List.take_length] at h
        split at h
        · exact absurd (congrArg (fun q => q.2.2) h) (by simp)
        · rename_i hw
          show isName x = true
          unfold isName
          rw [spanF_N, hs]
          have hw : isWord x = false := by simpa using hw
          have hl : x.length ≤ 32 := by omega
          have h3' : (classS ((x.headD 0).toNat : Int) == 3) = true := by rw [h3]; rfl
          rw [hw, h3', decide_eq_true hl, beq_eq_false_iff_ne.2 hx]
          simp
    split at h
    · split at h
      · exact absurd (congrArg (fun q => q.2.2) h) (by simp)
      · split at h
        · exact absurd (congrArg (fun q => q.2.2) h) (by simp)
        · exact absurd (congrArg (fun q => q.2.2) h) (by simp)
    split at h
    · split at h
      · exact absurd (congrArg (fun q => q.2.2) h) (by simp)
      · split at h
        · exact absurd (congrArg (fun q => q.2.2) h) (by simp)
        · exact absurd (congrArg (fun q => q.2.2) h) (by simp)
    · exact absurd (congrArg (fun q => q.2.2) h) (by simp)
  · have hk : k = 2 := hk
    subst hk
    show 0 ≤ v ∧ v < 9223372036854775808
    split at h
    · exact absurd (congrArg (fun q => q.2.2) h) (by simp)
    split at h
    · exact absurd (congrArg (fun q => q.2.2) h) (by simp)
    split at h
    · split at h
      · exact absurd (congrArg (fun q => q.2.2) h) (by simp)
      · split at h
        · exact absurd (congrArg (fun q => q.2.2) h) (by simp)
        · exact absurd (congrArg (fun q => q.2.2) h) (by simp)
    split at h
    · split at h
      · exact absurd (congrArg (fun q => q.2.2) h) (by simp)
      · split at h
        · rename_i w hw
          have hs : spanN isDig x = x.length := congrArg (fun q => q.2.1) h
          have hv : w = v := by have := congrArg (fun q => q.2.2) h; simpa using this
          rw [hs, List.take_length] at hw
          exact digS_pos x 0 v (by decide) (by decide) (spanN_dig hs) (hv ▸ hw)
        · exact absurd (congrArg (fun q => q.2.2) h) (by simp)
    split at h
    · split at h
      · exact absurd (congrArg (fun q => q.2.2) h) (by simp)
      · split at h
        · exact absurd (congrArg (fun q => q.2.2) h) (by simp)
        · exact absurd (congrArg (fun q => q.2.2) h) (by simp)
    · exact absurd (congrArg (fun q => q.2.2) h) (by simp)
theorem Lx.good {w : Str} {a : Nat} {ts : List Tk} (h : Lx w a ts) : GoodL ts := by
  induction h with
  | nil a => intro t ht; simp at ht
  | skip hw h g ih => exact ih
  | tok hw h g ih =>
    intro t ht
    rcases List.mem_cons.1 ht with rfl | ht
    · exact tok_good (tok_self hw h).1
    · exact ih t ht
theorem scan_good {s : Str} (h : (scanS s).2.1 = 0) : GoodL (scanS s).1 := by
  obtain ⟨_, ts, h1, h2⟩ := scanS_Lx h
  rw [h2]
  intro t ht
  rcases List.mem_append.1 ht with ht | ht
  · exact h1.good t ht
  · rw [List.mem_singleton.1 ht]
    exact ⟨fun h => absurd h (by show ¬ (5 : Int) = 1; decide), fun h => absurd h (by show ¬ (5 : Int) = 2; decide)⟩
/-! ### expressions -/
theorem nm_good {t : Tk} {s : Str} (h : GoodT t) (k : t.nm s) : isName s = true := by
  have := h.1 k.1
  rw [k.2] at this; exact this
theorem nu_good {t : Tk} {n : Int} (h : GoodT t) (k : t.nu n) : 0 ≤ n ∧ R64 n := by
  have := h.2 k.1
  rw [k.2] at this
  exact ⟨this.1, by unfold R64; omega⟩
theorem selI_mem {s : Str} {d : Int} : ∀ {ks : List Str} {vs : List Int}, selI s ks vs d ≠ d → s ∈ ks
  | [], _, h => by simp [selI] at h
  | k :: ks, [], h => by simp [selI] at h
  | k :: ks, v :: vs, h => by
    unfold selI at h
    split at h
    · rename_i hk
      first
        | (simp at hk; subst hk; exact List.mem_cons_self)
        | (rw [hk]; exact List.mem_cons_self)
    · exact List.mem_cons_of_mem _ (selI_mem h)
theorem tok_kw {k v : Int} {x : Str} (h : isTok k x v) (h4 : k = 4) : kindOf x = 0 := by
  refine Classical.byContradiction fun hn => ?_
  have hm : x ∈ kindT := selI_mem hn
  have key : ∀ w ∈ kindT, ∀ v : Int, stepT w ≠ (0, w.length, some (4, v)) := by
    intro w hw v he
    have : ∀ w ∈ kindT, (stepT w).2.2.map Prod.fst = some 3 := by
      intro w hw
      simp only [kindT, List.mem_cons, List.not_mem_nil, or_false] at hw
      rcases hw with rfl | rfl | rfl | rfl | rfl | rfl | rfl | rfl | rfl | rfl <;> kernel_rfl
    have h3 := this w hw
    rw [he] at h3
    cases h3
  subst h4
  exact key x hm v h.2
theorem Lx.kw {w : Str} {a : Nat} {ts : List Tk} (h : Lx w a ts) : KW ts := by
  induction h with
  | nil a => intro t ht; simp at ht
  | skip hw h g ih => exact ih
  | tok hw h g ih =>
    intro t ht
    rcases List.mem_cons.1 ht with rfl | ht
    · exact fun h4 => tok_kw (tok_self hw h).1 h4
    · exact ih t ht
theorem scan_kw {s : Str} (h : (scanS s).2.1 = 0) : KW (scanS s).1 := by
  obtain ⟨_, ts, h1, h2⟩ := scanS_Lx h
  rw [h2]
  intro t ht
  rcases List.mem_append.1 ht with ht | ht
  · exact h1.kw t ht
  · rw [List.mem_singleton.1 ht]
    exact fun h => absurd h (by show ¬ (5 : Int) = 4; decide)
end Go.Proofs.YtmflfcbebeikcaaGreat.Q

namespace Go.Proofs.YtmflfcbebeikcaaGreat.Q
open Go.RowKit
variable [Amb]
/-- A statement whose heads are right. -/
inductive StH : St → Prop
  | mk {kind : Int} {mon name : Str} {n : Int} {e : Ex} {blocks : List (List St)} {pl : Int} (hk : HeadIs kind mon name n e blocks.length) (k : ∀ b ∈ blocks, ∀ y ∈ b, StH y) : StH ⟨kind, mon, name, n, e, blocks, pl⟩
theorem blks_one {w : Str} {R : TR} {ts : List Tk} (h : blksR w 0 [R] ts) : R ts := by
  obtain ⟨_, _, rfl, ⟨_, u, rfl, h1, h2⟩, h3⟩ := h
  have h1 : _ = [] := h1
  have h3 : _ = [] := h3
  subst h1; subst h3
  simpa using h2
theorem blks_two {w : Str} {R Q : TR} {ts : List Tk} (h : blksR w 0 [R, Q] ts) : ∃ u t v, ts = u ++ t :: v ∧ R u ∧ t.sg w ∧ Q v := by
  obtain ⟨_, _, rfl, ⟨_, u, rfl, h1, h2⟩, _, _, rfl, ⟨_, v, rfl, ⟨t, rfl, ht⟩, h4⟩, h5⟩ := h
  have h1 : _ = [] := h1
  have h5 : _ = [] := h5
  subst h1; subst h5
  exact ⟨u, t, v, by simp, h2, isS_sg.1 ht, h4⟩
theorem comp_one {a o : Int} {l vs : List Tk} {k pl : Int} {m : Str} {e : Ex} {r : Rd} {b : List St} (hok : (rd a o l).ok) (hk : k ≠ 6) (hh : (rd a o l).head k = ((m, e), r)) (hb : r.block = (b, rd a o vs)) (hn : k = 3 → noEl vs) (hv : vs ≠ []) :
    (rd a o l).comp k pl = (⟨k, m, [], 0, e, [b], pl⟩, rd a o vs) := by
  rw [Rd.comp_eq hok, hh]
  dsimp only
  rw [hb]
  dsimp only
  by_cases h3 : k = 3
  · rw [if_pos h3, if_neg]
    intro hi
    cases vs with
    | nil => exact hv rfl
    | cons v q => exact (hn h3 v rfl).1 ((rd_is a o v q _).1 hi)
  · rw [if_neg h3, if_neg hk]
theorem comp_badB {a o : Int} {l : List Tk} {k pl : Int} (hok : (rd a o l).ok) (hb : ((rd a o l).head k).2.block.2.code = 41) : ((rd a o l).comp k pl).2.code = 41 := by
  have hb' := bad41 hb
  rw [Rd.comp_eq hok]
  split
  · rw [if_neg (bad_is hb' _)]; exact hb
  split
  · dsimp only; rw [bad_ors hb']; exact hb
  · exact hb
theorem comp_badH {a o : Int} {l : List Tk} {k pl : Int} (hok : (rd a o l).ok) (hb : ((rd a o l).head k).2.code = 41) : ((rd a o l).comp k pl).2.code = 41 :=
  comp_badB hok (by rw [bad_block (bad41 hb)]; exact hb)
/-- The branches behind the first one. -/
theorem orsA : ∀ (bs : List (List St)), (∀ b ∈ bs, BA b) → ∀ (i : Nat) (ts : List Tk), 0 < i → blksR [111, 114] i (bs.map bodyR) ts → ∀ (a o : Int) (acc : List (List St)) (vs : List Tk), 0 ≤ o → o ≤ 64 → acc.length + bs.length ≤ 8 → vs ≠ [] → noEl vs → KW (ts ++ vs) → Tl (ts ++ vs) →
    (∃ l' : List (List St), l'.map (List.map St.er) = bs.map (List.map St.er) ∧ (rd a o (ts ++ vs)).ors acc = (acc ++ l', rd a o vs)) ∨ ((rd a o (ts ++ vs)).ors acc).2.code = 41
  | [], _, i, ts, hi, h, a, o, acc, vs, h0, h1, _, hv, hn, hw, hl => by
    have h : ts = [] := h
    subst h
    rw [List.nil_append] at hl ⊢
    refine .inl ⟨[], rfl, ?_⟩
    rw [Rd.ors_eq (hl.ok h0 h1), if_neg, List.append_nil]
    intro hi
    cases vs with
    | nil => exact hv rfl
    | cons v q => exact (hn v rfl).2 ((rd_is a o v q _).1 hi)
  | b :: r, hB, i, ts, hi, h, a, o, acc, vs, h0, h1, hacc, hv, hn, hw, hl => by
    obtain ⟨_, ts2, rfl, ⟨_, ts1, rfl, hw1, h2⟩, h3⟩ := h
    rw [if_pos hi] at hw1
    obtain ⟨w, rfl, hw1⟩ := hw1
    have w1 := isS_sg.1 hw1
    obtain ⟨t, ts1', rfl, m2, m3⟩ := hB b List.mem_cons_self ts1 h2
    have el : [w] ++ (t :: ts1') ++ ts2 ++ vs = w :: (t :: ts1' ++ (ts2 ++ vs)) := by simp
    rw [el] at hl hw ⊢
    have hne : ts2 ++ vs ≠ [] := by simp [hv]
    have hl1 := hl.tail (by simp)
    have hl2 := hl1.drop hne
    have hac : acc.length + (r.length + 1) ≤ 8 := hacc
    have hroom : (rd a o (w :: (t :: ts1' ++ (ts2 ++ vs)))).room (acc.length : Int) 8 = rd a o (w :: (t :: ts1' ++ (ts2 ++ vs))) := by
      unfold Rd.room
      rw [if_neg (by omega)]
    rw [Rd.ors_eq (hl.ok h0 h1), if_pos ((rd_is a o w _ _).2 w1), hroom, rd_take a o w (by simp)]
    rcases m3 a o (ts2 ++ vs) h0 h1 hne hw.tail hl1 with ⟨b', e1, e2⟩ | hb
    · rw [e2]
      dsimp only
      rcases orsA r (fun c hc => hB c (List.mem_cons_of_mem _ hc)) (i + 1) ts2 (by omega) h3 a o (acc ++ [b']) vs h0 h1 (by simp; omega) hv hn hw.tail.drop hl2 with ⟨l', f1, f2⟩ | hb
      · exact .inl ⟨b' :: l', by rw [List.map_cons, List.map_cons, e1, f1], by rw [f2]; simp⟩
      · exact .inr hb
    · rw [bad_ors (bad41 hb)]
      exact .inr hb
theorem len_two {α : Type} {l : List α} (h : l.length = 2) : ∃ a b, l = [a, b] := by
  match l, h with
  | [a, b], _ => exact ⟨a, b, rfl⟩
theorem stmtA (N : Nat) : ∀ (y : St), y.cn ≤ N → StH y → SA y := by
  induction N with
  | zero => intro y h; have := y.cn_pos; omega
  | succ N ih =>
    intro y hN hK
    have hBB : ∀ b ∈ y.blocks, (∀ z ∈ b, StH z) → BA b := fun b hb hz => LA.block (LA.all fun z hzb => ih z (by have := y.cn_kid hb hzb; omega) (hz z hzb))
    cases hK with
    | @mk kind mon name n e blocks pl hk hkids =>
    dsimp only at hBB
    have hB : ∀ b ∈ blocks, BA b := fun b hb => hBB b hb (hkids b hb)
    clear hBB ih hkids
    have hkk : kind = 1 ∨ kind = 2 ∨ kind = 3 ∨ kind = 4 ∨ kind = 5 ∨ kind = 6 ∨ kind = 7 ∨ kind = 8 ∨ kind = 9 ∨ kind = 10 ∨ kind = 11 := by have := hk.k; omega
    intro ts hts
    rw [stR_eq] at hts
    dsimp only at hts
    rcases hkk with rfl | rfl | rfl | rfl | rfl | rfl | rfl | rfl | rfl | rfl | rfl
    · -- skip
      obtain rfl := hk.mon' (by decide)
      obtain rfl := hk.name' (by decide)
      obtain rfl := hk.n9 (by decide)
      have hb0 : blocks = [] := List.eq_nil_of_length_eq_zero (hk.len0 (by decide))
      subst hb0
      obtain ⟨_, _, rfl, ⟨t, rfl, ht⟩, _, _, rfl, ⟨u, rfl, hu⟩, hnil⟩ : seqR [wR [115, 107, 105, 112], wR [59]] ts := hts
      have hnil : _ = [] := hnil
      subst hnil
      have t1 := isS_sg.1 ht
      have u1 := isS_sg.1 hu
      refine ⟨t, [u], rfl, hd_sg t1 (by decide), fun a o vs h0 h1 hv hno hw hl => ?_⟩
      have el : [t] ++ ([u] ++ []) ++ vs = t :: (u :: vs) := rfl
      rw [el] at hl hw ⊢
      refine .inl ⟨⟨1, [], [], 0, ex0, [], t.pl⟩, st_er (er_none (hk.ex' (by decide))) rfl, ?_⟩
      rw [stmt_sg hl hw h0 h1 t1 (by simp) (k := 1) (by kernel_rfl) (by decide), if_neg (by decide)]
      unfold Rd.simple
      rw [if_neg (by decide), if_neg (by decide), if_neg (by decide), rd_must a o hv u1]
    · -- set
      have m1 := hk.mon (.inl rfl)
      have m2 := hk.name (.inl rfl)
      obtain rfl := hk.n9 (by decide)
      have hb0 : blocks = [] := List.eq_nil_of_length_eq_zero (hk.len0 (by decide))
      subst hb0
      obtain ⟨_, _, rfl, ⟨_, _, rfl, ⟨t, rfl, ht⟩, _, _, rfl, ⟨d, rfl, hd⟩, _, _, rfl, ⟨v, rfl, hvn⟩, hn1⟩, _, _, rfl, ⟨q, rfl, hq⟩, es, _, rfl, hes, _, _, rfl, ⟨u, rfl, hu⟩, hn2⟩ : seqR [pairR mon name, wR [61], freeR e, wR [59]] ts := hts
      have hn1 : _ = [] := hn1
      have hn2 : _ = [] := hn2
      subst hn1; subst hn2
      have t1 := isN_nm.1 ht
      have d1 := isS_sg.1 hd
      have v1 := isN_nm.1 hvn
      have q1 := isS_sg.1 hq
      have u1 := isS_sg.1 hu
      refine ⟨t, d :: v :: q :: (es ++ [u]), by simp, .inl t1.1, fun a o vs h0 h1 hv hno hw hl => ?_⟩
      have el : [t] ++ ([d] ++ ([v] ++ [])) ++ ([q] ++ (es ++ ([u] ++ []))) ++ vs = t :: d :: v :: q :: (es ++ (u :: vs)) := by simp
      rw [el] at hl hw ⊢
      have hne : es ++ u :: vs ≠ [] := by simp
      have hl4 := (((hl.tail (by simp)).tail (by simp)).tail (by simp)).tail hne
      rw [Rd.stmt_eq (hl.ok h0 h1), rd_next, if_pos t1.1]
      unfold Rd.set_
      rw [rd_pair a o (by simp) t1 d1 v1]
      dsimp only
      rw [rd_must a o hne q1]
      rcases exprA hes (a := a) h0 h1 (vs := u :: vs) (by simp) hl4 (nop_sg u1 (by decide) (by decide) (by decide) (by decide) (by decide)) with ⟨e', f1, f2⟩ | hb
      · refine .inl ⟨⟨2, mon, name, 0, e', [], t.pl⟩, st_er f1 rfl, ?_⟩
        rw [f2]
        dsimp only
        rw [rd_must a o hv u1, rd_next]
      · refine .inr ?_
        rw [bad_must (bad41 hb)]
        exact hb
    · -- if
      obtain rfl := hk.mon' (by decide)
      obtain rfl := hk.name' (by decide)
      obtain rfl := hk.n9 (by decide)
      obtain ⟨_, _, rfl, ⟨t, rfl, ht⟩, es, _, rfl, hes, bs0, _, rfl, hbs, hn1⟩ : seqR [wR [105, 102], freeR e, blksR [101, 108, 115, 101] 0 (blocks.map bodyR)] ts := hts
      have hn1 : _ = [] := hn1
      subst hn1
      have t1 := isS_sg.1 ht
      rcases hk.len3 rfl with hlen | hlen
      · obtain ⟨b, rfl⟩ := List.length_eq_one_iff.1 hlen
        obtain ⟨bt, bs, rfl, b2, b3⟩ := hB b (by simp) bs0 (blks_one hbs)
        refine ⟨t, es ++ (bt :: bs), by simp, hd_sg t1 (by decide), fun a o vs h0 h1 hv hno hw hl => ?_⟩
        have el : [t] ++ (es ++ (bt :: bs ++ [])) ++ vs = t :: (es ++ (bt :: bs ++ vs)) := by simp
        rw [el] at hl hw ⊢
        have hne : es ++ (bt :: bs ++ vs) ≠ [] := by simp
        have hl1 := hl.tail hne
        have hl2 := hl1.drop (ts := es) (by simp)
        rw [stmt_sg hl hw h0 h1 t1 hne (k := 3) (by kernel_rfl) (by decide), if_pos (by decide)]
        rcases exprA hes (a := a) h0 h1 (vs := bt :: bs ++ vs) (by simp) hl1 (nop_sg b2 (by decide) (by decide) (by decide) (by decide) (by decide)) with ⟨e', f1, f2⟩ | hb
        · have hh : (rd a o (es ++ (bt :: bs ++ vs))).head 3 = (([], e'), rd a o (bt :: bs ++ vs)) := by
            unfold Rd.head
            rw [if_pos (.inl rfl), f2]
          rcases b3 a o vs h0 h1 hv hw.tail.drop hl2 with ⟨b', g1, g2⟩ | hb
          · exact .inl ⟨⟨3, [], [], 0, e', [b'], t.pl⟩, st_er f1 (by rw [List.map_cons, List.map_cons, g1]), comp_one (hl1.ok h0 h1) (by decide) hh g2 (fun _ => hno) hv⟩
          · exact .inr (comp_badB (hl1.ok h0 h1) (by rw [hh]; exact hb))
        · exact .inr (comp_badH (hl1.ok h0 h1) (by unfold Rd.head; rw [if_pos (.inl rfl)]; exact hb))
      · obtain ⟨b, c, rfl⟩ := len_two hlen
        obtain ⟨bs1, w, cs0, rfl, hb1, w1, hc1⟩ := blks_two hbs
        obtain ⟨bt, bs, rfl, b2, b3⟩ := hB b (by simp) bs1 hb1
        obtain ⟨ct, cs, rfl, c2, c3⟩ := hB c (by simp) cs0 hc1
        refine ⟨t, es ++ (bt :: bs ++ (w :: (ct :: cs))), by simp, hd_sg t1 (by decide), fun a o vs h0 h1 hv hno hw hl => ?_⟩
        have el : [t] ++ (es ++ (bt :: bs ++ w :: (ct :: cs) ++ [])) ++ vs = t :: (es ++ (bt :: bs ++ (w :: (ct :: cs ++ vs)))) := by simp
        rw [el] at hl hw ⊢
        have hne : es ++ (bt :: bs ++ (w :: (ct :: cs ++ vs))) ≠ [] := by simp
        have hl1 := hl.tail hne
        have hl2 := hl1.drop (ts := es) (by simp)
        have hl3 := hl2.drop (ts := bt :: bs) (by simp)
        have hl4 := hl3.tail (by simp)
        rw [stmt_sg hl hw h0 h1 t1 hne (k := 3) (by kernel_rfl) (by decide), if_pos (by decide)]
        rcases exprA hes (a := a) h0 h1 (vs := bt :: bs ++ (w :: (ct :: cs ++ vs))) (by simp) hl1 (nop_sg b2 (by decide) (by decide) (by decide) (by decide) (by decide)) with ⟨e', f1, f2⟩ | hb
        · have hh : (rd a o (es ++ (bt :: bs ++ (w :: (ct :: cs ++ vs))))).head 3 = (([], e'), rd a o (bt :: bs ++ (w :: (ct :: cs ++ vs)))) := by
            unfold Rd.head
            rw [if_pos (.inl rfl), f2]
          rcases b3 a o (w :: (ct :: cs ++ vs)) h0 h1 (by simp) hw.tail.drop hl2 with ⟨b', g1, g2⟩ | hb
          · have hcomp : (rd a o (es ++ (bt :: bs ++ (w :: (ct :: cs ++ vs))))).comp 3 t.pl = (⟨3, [], [], 0, e', [b', (rd a o (ct :: cs ++ vs)).block.1], t.pl⟩, (rd a o (ct :: cs ++ vs)).block.2) := by
              rw [Rd.comp_eq (hl1.ok h0 h1), hh]
              dsimp only
              rw [g2]
              dsimp only
              rw [if_pos rfl, if_pos ((rd_is a o w _ _).2 w1), rd_take a o w (by simp)]
            rw [hcomp]
            rcases c3 a o vs h0 h1 hv hw.tail.drop.drop.tail hl4 with ⟨c', q1, q2⟩ | hb
            · exact .inl ⟨⟨3, [], [], 0, e', [b', c'], t.pl⟩, st_er f1 (by simp only [List.map_cons, List.map_nil, g1, q1]), by rw [q2]⟩
            · exact .inr hb
          · exact .inr (comp_badB (hl1.ok h0 h1) (by rw [hh]; exact hb))
        · exact .inr (comp_badH (hl1.ok h0 h1) (by unfold Rd.head; rw [if_pos (.inl rfl)]; exact hb))
    · -- while
      obtain rfl := hk.mon' (by decide)
      obtain rfl := hk.name' (by decide)
      obtain rfl := hk.n9 (by decide)
      obtain ⟨_, _, rfl, ⟨t, rfl, ht⟩, es, _, rfl, hes, bs0, _, rfl, hbs, hn1⟩ : seqR [wR [119, 104, 105, 108, 101], freeR e, blksR [] 0 (blocks.map bodyR)] ts := hts
      have hn1 : _ = [] := hn1
      subst hn1
      have t1 := isS_sg.1 ht
      obtain ⟨b, rfl⟩ := List.length_eq_one_iff.1 (hk.len1 (.inl rfl))
      obtain ⟨bt, bs, rfl, b2, b3⟩ := hB b (by simp) bs0 (blks_one hbs)
      refine ⟨t, es ++ (bt :: bs), by simp, hd_sg t1 (by decide), fun a o vs h0 h1 hv hno hw hl => ?_⟩
      have el : [t] ++ (es ++ (bt :: bs ++ [])) ++ vs = t :: (es ++ (bt :: bs ++ vs)) := by simp
      rw [el] at hl hw ⊢
      have hne : es ++ (bt :: bs ++ vs) ≠ [] := by simp
      have hl1 := hl.tail hne
      have hl2 := hl1.drop (ts := es) (by simp)
      rw [stmt_sg hl hw h0 h1 t1 hne (k := 4) (by kernel_rfl) (by decide), if_pos (by decide)]
      rcases exprA hes (a := a) h0 h1 (vs := bt :: bs ++ vs) (by simp) hl1 (nop_sg b2 (by decide) (by decide) (by decide) (by decide) (by decide)) with ⟨e', f1, f2⟩ | hb
      · have hh : (rd a o (es ++ (bt :: bs ++ vs))).head 4 = (([], e'), rd a o (bt :: bs ++ vs)) := by
          unfold Rd.head
          rw [if_pos (.inr rfl), f2]
        rcases b3 a o vs h0 h1 hv hw.tail.drop hl2 with ⟨b', g1, g2⟩ | hb
        · exact .inl ⟨⟨4, [], [], 0, e', [b'], t.pl⟩, st_er f1 (by rw [List.map_cons, List.map_cons, g1]), comp_one (hl1.ok h0 h1) (by decide) hh g2 (fun h => absurd h (by decide)) hv⟩
        · exact .inr (comp_badB (hl1.ok h0 h1) (by rw [hh]; exact hb))
      · exact .inr (comp_badH (hl1.ok h0 h1) (by unfold Rd.head; rw [if_pos (.inr rfl)]; exact hb))
    · -- loop
      obtain rfl := hk.mon' (by decide)
      obtain rfl := hk.name' (by decide)
      obtain rfl := hk.n9 (by decide)
      have hno0 := hk.ex' (by decide)
      obtain ⟨_, _, rfl, ⟨t, rfl, ht⟩, bs0, _, rfl, hbs, hn1⟩ : seqR [wR [108, 111, 111, 112], blksR [] 0 (blocks.map bodyR)] ts := hts
      have hn1 : _ = [] := hn1
      subst hn1
      have t1 := isS_sg.1 ht
      obtain ⟨b, rfl⟩ := List.length_eq_one_iff.1 (hk.len1 (.inr (.inl rfl)))
      obtain ⟨bt, bs, rfl, b2, b3⟩ := hB b (by simp) bs0 (blks_one hbs)
      refine ⟨t, bt :: bs, by simp, hd_sg t1 (by decide), fun a o vs h0 h1 hv hno hw hl => ?_⟩
      have el : [t] ++ (bt :: bs ++ []) ++ vs = t :: (bt :: bs ++ vs) := by simp
      rw [el] at hl hw ⊢
      have hl1 := hl.tail (by simp)
      rw [stmt_sg hl hw h0 h1 t1 (by simp) (k := 5) (by kernel_rfl) (by decide), if_pos (by decide)]
      have hh : (rd a o (bt :: bs ++ vs)).head 5 = (([], ex0), rd a o (bt :: bs ++ vs)) := rfl
      rcases b3 a o vs h0 h1 hv hw.tail hl1 with ⟨b', g1, g2⟩ | hb
      · exact .inl ⟨⟨5, [], [], 0, ex0, [b'], t.pl⟩, st_er (er_none hno0) (by rw [List.map_cons, List.map_cons, g1]), comp_one (hl1.ok h0 h1) (by decide) hh g2 (fun h => absurd h (by decide)) hv⟩
      · exact .inr (comp_badB (hl1.ok h0 h1) (by rw [hh]; exact hb))
    · -- choose
      obtain rfl := hk.mon' (by decide)
      obtain rfl := hk.name' (by decide)
      obtain rfl := hk.n9 (by decide)
      have hno0 := hk.ex' (by decide)
      obtain ⟨hlen1, hlen8⟩ := hk.len6 rfl
      obtain ⟨_, _, rfl, ⟨t, rfl, ht⟩, bs0, _, rfl, hbs, hn1⟩ : seqR [wR [99, 104, 111, 111, 115, 101], blksR [111, 114] 0 (blocks.map bodyR)] ts := hts
      have hn1 : _ = [] := hn1
      subst hn1
      have t1 := isS_sg.1 ht
      cases blocks with
      | nil => simp at hlen1
      | cons b r =>
      obtain ⟨_, rs, rfl, ⟨_, bs1, rfl, hnl, hb1⟩, hrs⟩ := hbs
      have hnl : _ = [] := hnl
      subst hnl
      obtain ⟨bt, bs, rfl, b2, b3⟩ := hB b (by simp) bs1 hb1
      refine ⟨t, bt :: bs ++ rs, by simp, hd_sg t1 (by decide), fun a o vs h0 h1 hv hno hw hl => ?_⟩
      have el : [t] ++ ([] ++ (bt :: bs) ++ rs ++ []) ++ vs = t :: (bt :: bs ++ (rs ++ vs)) := by simp
      rw [el] at hl hw ⊢
      have hne : rs ++ vs ≠ [] := by simp [hv]
      have hl1 := hl.tail (by simp)
      have hl2 := hl1.drop hne
      rw [stmt_sg hl hw h0 h1 t1 (by simp) (k := 6) (by kernel_rfl) (by decide), if_pos (by decide)]
      have hh : (rd a o (bt :: bs ++ (rs ++ vs))).head 6 = (([], ex0), rd a o (bt :: bs ++ (rs ++ vs))) := rfl
      rcases b3 a o (rs ++ vs) h0 h1 hne hw.tail hl1 with ⟨b', g1, g2⟩ | hb
      · have hcomp : (rd a o (bt :: bs ++ (rs ++ vs))).comp 6 t.pl = (⟨6, [], [], 0, ex0, ((rd a o (rs ++ vs)).ors [b']).1, t.pl⟩, ((rd a o (rs ++ vs)).ors [b']).2) := by
          rw [Rd.comp_eq (hl1.ok h0 h1), hh]
          dsimp only
          rw [g2]
          dsimp only
          rw [if_neg (by decide), if_pos rfl]
        rw [hcomp]
        rcases orsA r (fun c hc => hB c (List.mem_cons_of_mem _ hc)) 1 rs (by decide) hrs a o [b'] vs h0 h1 (by simp at hlen8 ⊢; omega) hv hno hw.tail.drop hl2 with ⟨r', q1, q2⟩ | hb
        · exact .inl ⟨⟨6, [], [], 0, ex0, b' :: r', t.pl⟩, st_er (er_none hno0) (by rw [List.map_cons, List.map_cons, g1, q1]), by rw [q2]; rfl⟩
        · exact .inr hb
      · exact .inr (comp_badB (hl1.ok h0 h1) (by rw [hh]; exact hb))
    · -- sync
      have m1 := hk.mon (.inr (by decide))
      obtain rfl := hk.name' (by decide)
      obtain rfl := hk.n9 (by decide)
      have hno0 := hk.ex' (by decide)
      obtain ⟨_, _, rfl, ⟨t, rfl, ht⟩, _, _, rfl, ⟨v, rfl, hvn⟩, bs0, _, rfl, hbs, hn1⟩ : seqR [wR [115, 121, 110, 99], nR mon, blksR [] 0 (blocks.map bodyR)] ts := hts
      have hn1 : _ = [] := hn1
      subst hn1
      have t1 := isS_sg.1 ht
      have v1 := isN_nm.1 hvn
      obtain ⟨b, rfl⟩ := List.length_eq_one_iff.1 (hk.len1 (.inr (.inr rfl)))
      obtain ⟨bt, bs, rfl, b2, b3⟩ := hB b (by simp) bs0 (blks_one hbs)
      refine ⟨t, v :: bt :: bs, by simp, hd_sg t1 (by decide), fun a o vs h0 h1 hv hno hw hl => ?_⟩
      have el : [t] ++ ([v] ++ (bt :: bs ++ [])) ++ vs = t :: v :: (bt :: bs ++ vs) := by simp
      rw [el] at hl hw ⊢
      have hl1 := hl.tail (by simp)
      have hl2 := hl1.tail (by simp)
      rw [stmt_sg hl hw h0 h1 t1 (by simp) (k := 7) (by kernel_rfl) (by decide), if_pos (by decide)]
      have hh : (rd a o (v :: (bt :: bs ++ vs))).head 7 = ((mon, ex0), rd a o (bt :: bs ++ vs)) := by
        unfold Rd.head
        rw [if_neg (by decide), if_pos rfl, rd_name a o (by simp) v1]
      rcases b3 a o vs h0 h1 hv hw.tail.tail hl2 with ⟨b', g1, g2⟩ | hb
      · exact .inl ⟨⟨7, mon, [], 0, ex0, [b'], t.pl⟩, st_er (er_none hno0) (by rw [List.map_cons, List.map_cons, g1]), comp_one (hl1.ok h0 h1) (by decide) hh g2 (fun h => absurd h (by decide)) hv⟩
      · exact .inr (comp_badB (hl1.ok h0 h1) (by rw [hh]; exact hb))
    · -- call
      have m1 := hk.mon (.inr (by decide))
      have m2 := hk.name (.inr rfl)
      obtain rfl := hk.n9 (by decide)
      have hno0 := hk.ex' (by decide)
      have hb0 : blocks = [] := List.eq_nil_of_length_eq_zero (hk.len0 (by decide))
      subst hb0
      obtain ⟨_, _, rfl, ⟨t, rfl, ht⟩, _, _, rfl, ⟨_, _, rfl, ⟨m, rfl, hm⟩, _, _, rfl, ⟨d, rfl, hd⟩, _, _, rfl, ⟨v, rfl, hvn⟩, hn1⟩, _, _, rfl, ⟨u, rfl, hu⟩, hn2⟩ : seqR [wR [99, 97, 108, 108], pairR mon name, wR [59]] ts := hts
      have hn1 : _ = [] := hn1
      have hn2 : _ = [] := hn2
      subst hn1; subst hn2
      have t1 := isS_sg.1 ht
      have k1 := isN_nm.1 hm
      have d1 := isS_sg.1 hd
      have v1 := isN_nm.1 hvn
      have u1 := isS_sg.1 hu
      refine ⟨t, [m, d, v, u], rfl, hd_sg t1 (by decide), fun a o vs h0 h1 hv hno hw hl => ?_⟩
      have el : [t] ++ ([m] ++ ([d] ++ ([v] ++ [])) ++ ([u] ++ [])) ++ vs = t :: m :: d :: v :: u :: vs := rfl
      rw [el] at hl hw ⊢
      refine .inl ⟨⟨8, mon, name, 0, ex0, [], t.pl⟩, st_er (er_none hno0) rfl, ?_⟩
      rw [stmt_sg hl hw h0 h1 t1 (by simp) (k := 8) (by kernel_rfl) (by decide), if_neg (by decide)]
      unfold Rd.simple
      rw [if_pos rfl, rd_pair a o (by simp) k1 d1 v1]
      dsimp only
      rw [rd_must a o hv u1]
    · -- wait
      have m1 := hk.mon (.inr (by decide))
      obtain rfl := hk.name' (by decide)
      have hno0 := hk.ex' (by decide)
      have hb0 : blocks = [] := List.eq_nil_of_length_eq_zero (hk.len0 (by decide))
      subst hb0
      have hn0 := hk.n0
      obtain ⟨_, _, rfl, ⟨_, ns, rfl, ⟨_, _, rfl, ⟨t, rfl, ht⟩, _, _, rfl, ⟨m, rfl, hm⟩, hn1⟩, hns⟩, ⟨u, rfl, hu⟩⟩ : then2 (then2 (seqR [wR [119, 97, 105, 116], nR mon]) (if 0 < n then iR n else seqR [])) (wR [59]) ts := hts
      have hn1 : _ = [] := hn1
      subst hn1
      have t1 := isS_sg.1 ht
      have k1 := isN_nm.1 hm
      have u1 := isS_sg.1 hu
      by_cases hpos : 0 < n
      · rw [if_pos hpos] at hns
        obtain ⟨v, rfl, hvn⟩ := hns
        have v1 := isI_nu.1 hvn
        refine ⟨t, [m, v, u], rfl, hd_sg t1 (by decide), fun a o vs h0 h1 hv hno hw hl => ?_⟩
        have el : [t] ++ ([m] ++ []) ++ [v] ++ [u] ++ vs = t :: m :: v :: u :: vs := rfl
        rw [el] at hl hw ⊢
        refine .inl ⟨⟨9, mon, [], n, ex0, [], t.pl⟩, st_er (er_none hno0) rfl, ?_⟩
        rw [stmt_sg hl hw h0 h1 t1 (by simp) (k := 9) (by kernel_rfl) (by decide), if_neg (by decide)]
        unfold Rd.simple
        rw [if_neg (by decide), if_pos rfl, rd_name a o (by simp) k1]
        dsimp only
        unfold Rd.wait
        rw [rd_next, if_pos v1.1, if_neg (by rw [v1.2]; omega), rd_take a o v (by simp)]
        dsimp only
        rw [rd_must a o hv u1, v1.2]
      · rw [if_neg hpos] at hns
        have hns : ns = [] := hns
        subst hns
        have hz : n = 0 := by omega
        subst hz
        refine ⟨t, [m, u], rfl, hd_sg t1 (by decide), fun a o vs h0 h1 hv hno hw hl => ?_⟩
        have el : [t] ++ ([m] ++ []) ++ [] ++ [u] ++ vs = t :: m :: u :: vs := rfl
        rw [el] at hl hw ⊢
        refine .inl ⟨⟨9, mon, [], 0, ex0, [], t.pl⟩, st_er (er_none hno0) rfl, ?_⟩
        rw [stmt_sg hl hw h0 h1 t1 (by simp) (k := 9) (by kernel_rfl) (by decide), if_neg (by decide)]
        unfold Rd.simple
        rw [if_neg (by decide), if_pos rfl, rd_name a o (by simp) k1]
        dsimp only
        unfold Rd.wait
        rw [rd_next, if_neg (sg_kind u1).2.1]
        dsimp only
        rw [rd_must a o hv u1]
    · have m1 := hk.mon (.inr (by decide))
      obtain rfl := hk.name' (by decide)
      obtain rfl := hk.n9 (by decide)
      have hno0 := hk.ex' (by decide)
      have hb0 : blocks = [] := List.eq_nil_of_length_eq_zero (hk.len0 (by decide))
      subst hb0
      obtain ⟨_, _, rfl, ⟨t, rfl, ht⟩, _, _, rfl, ⟨m, rfl, hm⟩, _, _, rfl, ⟨u, rfl, hu⟩, hn1⟩ := hts
      have hn1 : _ = [] := hn1
      subst hn1
      have t1 := isS_sg.1 ht
      have k1 := isN_nm.1 hm
      have u1 := isS_sg.1 hu
      refine ⟨t, [m, u], rfl, hd_sg t1 (by decide), fun a o vs h0 h1 hv hno hw hl => ?_⟩
      have el : [t] ++ ([m] ++ ([u] ++ [])) ++ vs = t :: m :: u :: vs := rfl
      rw [el] at hl hw ⊢
      refine .inl ⟨⟨_, mon, [], 0, ex0, [], t.pl⟩, st_er (er_none hno0) rfl, ?_⟩
      rw [stmt_sg hl hw h0 h1 t1 (by simp) (k := 10) (by kernel_rfl) (by decide), if_neg (by decide)]
      unfold Rd.simple
      rw [if_neg (by decide), if_neg (by decide), if_pos (by decide), rd_name a o (by simp) k1]
      dsimp only
      rw [rd_must a o hv u1]
    · have m1 := hk.mon (.inr (by decide))
      obtain rfl := hk.name' (by decide)
      obtain rfl := hk.n9 (by decide)
      have hno0 := hk.ex' (by decide)
      have hb0 : blocks = [] := List.eq_nil_of_length_eq_zero (hk.len0 (by decide))
      subst hb0
      obtain ⟨_, _, rfl, ⟨t, rfl, ht⟩, _, _, rfl, ⟨m, rfl, hm⟩, _, _, rfl, ⟨u, rfl, hu⟩, hn1⟩ := hts
      have hn1 : _ = [] := hn1
      subst hn1
      have t1 := isS_sg.1 ht
      have k1 := isN_nm.1 hm
      have u1 := isS_sg.1 hu
      refine ⟨t, [m, u], rfl, hd_sg t1 (by decide), fun a o vs h0 h1 hv hno hw hl => ?_⟩
      have el : [t] ++ ([m] ++ ([u] ++ [])) ++ vs = t :: m :: u :: vs := rfl
      rw [el] at hl hw ⊢
      refine .inl ⟨⟨_, mon, [], 0, ex0, [], t.pl⟩, st_er (er_none hno0) rfl, ?_⟩
      rw [stmt_sg hl hw h0 h1 t1 (by simp) (k := 11) (by kernel_rfl) (by decide), if_neg (by decide)]
      unfold Rd.simple
      rw [if_neg (by decide), if_neg (by decide), if_pos (by decide), rd_name a o (by simp) k1]
      dsimp only
      rw [rd_must a o hv u1]
end Go.Proofs.YtmflfcbebeikcaaGreat.Q

namespace Go.Proofs.YtmflfcbebeikcaaGreat.Q
open Go.RowKit
variable [Amb]
theorem wholeA {n : Int} (hn : R64 n) {ts : List Tk} (h : wholeR n ts) : ∃ t ts', ts = t :: ts' ∧ (∀ s : Str, s ≠ [45] → ¬ t.sg s) ∧ ∀ (a o : Int) (vs : List Tk), vs ≠ [] → (rd a o (ts ++ vs)).whole = (n, rd a o vs) := by
  unfold R64 at hn
  rcases h with ⟨t, rfl, ht⟩ | ⟨_, _, rfl, ⟨u, rfl, hu⟩, ⟨t, rfl, ht⟩⟩
  · have t1 := isI_nu.1 ht
    refine ⟨t, [], rfl, fun s hs => nu_no t1 s, fun a o vs hv => ?_⟩
    unfold Rd.whole
    have e1 : (rd a o ([t] ++ vs)).may [45] = (false, rd a o (t :: vs)) := rd_may' (nu_no t1 _)
    rw [e1]
    dsimp only
    rw [rd_of a o hv t1.1]
    dsimp only
    rw [if_neg (by decide), t1.2]
  · have t1 := isI_nu.1 ht
    have u1 := isS_sg.1 hu
    refine ⟨u, [t], rfl, fun s hs k => hs (k.2.symm.trans u1.2), fun a o vs hv => ?_⟩
    unfold Rd.whole
    have e1 : (rd a o ([u] ++ [t] ++ vs)).may [45] = (true, rd a o (t :: vs)) := rd_may (by simp) u1
    rw [e1, rd_of a o hv t1.1]
    dsimp only
    rw [if_pos rfl, t1.2]
    congr 1
    rw [IntKind.wrap_i64, IntKind.wrap_i64]
    omega
structure VrH (v : Vr) : Prop where
  lo : R64 v.lo
  hi : R64 v.hi
  init : R64 v.init
  kind : (v.type = 1 ∧ v.lo = 0 ∧ v.hi = 0 ∧ (v.init = 0 ∨ v.init = 1)) ∨ (v.type = 2 ∧ v.lo = 0 ∧ v.hi = 0) ∨ (v.type = 3 ∧ v.lo ≤ v.hi)
def VA (v : Vr) : Prop := ∀ ts, varR v ts → ∃ t ts', ts = t :: ts' ∧ t.sg wVar ∧ ∀ (a o : Int) (vs : List Tk), vs ≠ [] → ∃ v' : Vr, v'.er = v.er ∧ (rd a o (ts' ++ vs)).var = (v', rd a o vs)
theorem varA {v : Vr} (h : VrH v) : VA v := by
  intro ts hts
  have hk := h.kind
  obtain ⟨hlo, hhi, hin⟩ := And.intro h.lo (And.intro h.hi h.init)
  obtain ⟨name, type, lo, hi, init, pl⟩ := v
  dsimp only at *
  clear h
  obtain ⟨_, r0, rfl, ⟨_, _, rfl, ⟨t, rfl, ht⟩, _, _, rfl, ⟨m, rfl, hm⟩, _, _, rfl, ⟨c, rfl, hc⟩, hn1⟩, hr0⟩ := hts
  have hn1 : _ = [] := hn1
  subst hn1
  have t1 := isS_sg.1 ht
  have t3 := isN_nm.1 hm
  have t4 := isS_sg.1 hc
  refine ⟨t, m :: c :: r0, by simp, t1, fun a o vs hv => ?_⟩
  have head : ∀ {l : List Tk}, l ≠ [] → (rd a o (m :: c :: l)).name = ((name, m.pl), rd a o (c :: l)) ∧ (rd a o (c :: l)).must [58] = rd a o l := fun hl => ⟨rd_name _ _ (by simp) t3, rd_must _ _ hl t4⟩
  rcases hk with ⟨rfl, rfl, rfl, hb⟩ | ⟨rfl, rfl, rfl⟩ | ⟨rfl, hle⟩
  · obtain ⟨_, _, rfl, ⟨k, rfl, hk1⟩, _, _, rfl, ⟨q, rfl, hq⟩, _, _, rfl, ⟨x, rfl, hx⟩, _, _, rfl, ⟨u, rfl, hu⟩, hn2⟩ : seqR [wR [98, 111, 111, 108], wR [61], wR (if init = 1 then [116, 114, 117, 101] else [102, 97, 108, 115, 101]), wR [59]] r0 := hr0
    have hn2 : _ = [] := hn2
    subst hn2
    have k1 := isS_sg.1 hk1
    have q1 := isS_sg.1 hq
    have x1 := isS_sg.1 hx
    have u1 := isS_sg.1 hu
    have el : m :: c :: ([k] ++ ([q] ++ ([x] ++ ([u] ++ [])))) ++ vs = m :: c :: k :: q :: x :: u :: vs := rfl
    rw [el]
    obtain ⟨h1, h2⟩ := head (l := k :: q :: x :: u :: vs) (by simp)
    refine ⟨⟨name, 1, 0, 0, init, m.pl⟩, rfl, ?_⟩
    unfold Rd.var
    rw [h1]
    dsimp only
    rw [h2, if_pos (is_yes k1), rd_take a o k (by simp)]
    unfold Rd.bol
    rw [rd_must a o (by simp) q1]
    rcases hb with rfl | rfl
    · have x1 : x.sg [102, 97, 108, 115, 101] := x1
      rw [if_neg (is_not (sg_not x1 (by decide)))]
      dsimp only
      rw [rd_must a o (by simp) x1, rd_must a o hv u1]
    · have x1 : x.sg [116, 114, 117, 101] := x1
      rw [if_pos (is_yes x1)]
      dsimp only
      rw [rd_take a o x (by simp), rd_must a o hv u1]
  · obtain ⟨_, _, rfl, ⟨k, rfl, hk1⟩, _, _, rfl, ⟨q, rfl, hq⟩, xs, _, rfl, hxs, _, _, rfl, ⟨u, rfl, hu⟩, hn2⟩ : then2 (wR [105, 110, 116]) (seqR [wR [61], wholeR init, wR [59]]) r0 := hr0
    have hn2 : _ = [] := hn2
    subst hn2
    have k1 := isS_sg.1 hk1
    have q1 := isS_sg.1 hq
    have u1 := isS_sg.1 hu
    obtain ⟨x, xs', rfl, x2, x3⟩ := wholeA hin hxs
    have el : m :: c :: ([k] ++ ([q] ++ (x :: xs' ++ ([u] ++ [])))) ++ vs = m :: c :: k :: q :: (x :: xs' ++ u :: vs) := by simp
    rw [el]
    obtain ⟨h1, h2⟩ := head (l := k :: q :: (x :: xs' ++ u :: vs)) (by simp)
    refine ⟨⟨name, 2, 0, 0, init, m.pl⟩, rfl, ?_⟩
    unfold Rd.var
    rw [h1]
    dsimp only
    rw [h2, if_neg (is_not (sg_not k1 (by decide))), if_pos (is_yes k1), rd_take a o k (by simp)]
    unfold Rd.fin
    rw [rd_must a o (by simp) q1, x3 a o (u :: vs) (by simp)]
    dsimp only
    rw [rd_must a o hv u1]
  · obtain ⟨_, _, rfl, ⟨zs, _, rfl, hzs, _, _, rfl, ⟨d, rfl, hd⟩, ys, _, rfl, hys, hn3⟩, _, _, rfl, ⟨q, rfl, hq⟩, xs, _, rfl, hxs, _, _, rfl, ⟨u, rfl, hu⟩, hn2⟩ : then2 (seqR [wholeR lo, wR [46, 46], wholeR hi]) (seqR [wR [61], wholeR init, wR [59]]) r0 := hr0
    have hn2 : _ = [] := hn2
    have hn3 : _ = [] := hn3
    subst hn2; subst hn3
    have d1 := isS_sg.1 hd
    have q1 := isS_sg.1 hq
    have u1 := isS_sg.1 hu
    obtain ⟨x, xs', rfl, x2, x3⟩ := wholeA hin hxs
    obtain ⟨y, ys', rfl, y2, y3⟩ := wholeA hhi hys
    obtain ⟨z, zs', rfl, z2, z3⟩ := wholeA hlo hzs
    have el : m :: c :: (z :: zs' ++ ([d] ++ (y :: ys' ++ [])) ++ ([q] ++ (x :: xs' ++ ([u] ++ [])))) ++ vs = m :: c :: (z :: zs' ++ (d :: (y :: ys' ++ (q :: (x :: xs' ++ u :: vs))))) := by simp
    rw [el]
    obtain ⟨h1, h2⟩ := head (l := z :: zs' ++ (d :: (y :: ys' ++ (q :: (x :: xs' ++ u :: vs))))) (by simp)
    have nb : ∀ s : Str, s ≠ [45] → ¬ (rd a o (z :: zs' ++ (d :: (y :: ys' ++ (q :: (x :: xs' ++ u :: vs)))))).is s = true := fun s hs => is_not (z2 s hs)
    refine ⟨⟨name, 3, lo, hi, init, m.pl⟩, rfl, ?_⟩
    unfold Rd.var
    rw [h1]
    dsimp only
    rw [h2, if_neg (nb _ (by decide)), if_neg (nb _ (by decide))]
    unfold Rd.rng
    rw [z3 a o (d :: (y :: ys' ++ (q :: (x :: xs' ++ u :: vs)))) (by simp)]
    dsimp only
    rw [rd_must a o (by simp) d1, y3 a o (q :: (x :: xs' ++ u :: vs)) (by simp)]
    dsimp only
    rw [if_neg (by omega)]
    unfold Rd.fin
    rw [rd_must a o (by simp) q1, x3 a o (u :: vs) (by simp)]
    dsimp only
    rw [rd_must a o hv u1]
theorem varsA : ∀ (l : List Vr), (∀ v ∈ l, VA v) → ∀ ts, seqR (l.map varR) ts → l.length ≤ ts.length ∧ ∀ (a o : Int) (acc : List Vr) (f : Nat) (vs : List Tk), l.length < f → acc.length + l.length ≤ 16 → vs ≠ [] → noW wVar vs →
    ∃ l' : List Vr, l'.map Vr.er = l.map Vr.er ∧ varsF f acc (rd a o (ts ++ vs)) = (acc ++ l', rd a o vs)
  | [], _, ts, h => by
    have h : ts = [] := h
    subst h
    refine ⟨Nat.le_refl _, fun a o acc f vs hf _ hv hn => ⟨[], rfl, ?_⟩⟩
    cases f with
    | zero => simp at hf
    | succ f => rw [List.nil_append, varsF, if_neg (noW_is hv hn), List.append_nil]
  | v :: r, hA, ts, h => by
    obtain ⟨ts1, ts2, rfl, h1, h2⟩ := h
    obtain ⟨t, ts1', rfl, m2, m3⟩ := hA v List.mem_cons_self ts1 h1
    obtain ⟨kn, k2⟩ := varsA r (fun c hc => hA c (List.mem_cons_of_mem _ hc)) ts2 h2
    refine ⟨by simp; omega, fun a o acc f vs hf hacc hv hn => ?_⟩
    have el : t :: ts1' ++ ts2 ++ vs = t :: (ts1' ++ (ts2 ++ vs)) := by simp
    rw [el]
    have hne : ts2 ++ vs ≠ [] := by simp [hv]
    have hacc' : acc.length + (r.length + 1) ≤ 16 := hacc
    have hf' : r.length + 1 < f := hf
    obtain ⟨v', e1, e2⟩ := m3 a o (ts2 ++ vs) hne
    cases f with
    | zero => omega
    | succ f =>
    obtain ⟨l', f1, f2⟩ := k2 a o (acc ++ [v']) f vs (by omega) (by simp; omega) hv hn
    refine ⟨v' :: l', by rw [List.map_cons, List.map_cons, e1, f1], ?_⟩
    rw [varsF, if_pos (is_yes m2), room_ok (by omega), rd_take a o t (by simp [hv]), e2]
    dsimp only
    rw [f2]; simp
/-! ### methods -/
def MA (f : Mt) : Prop := ∀ ts, mtR' f ts → ∃ t ts', ts = t :: ts' ∧ t.sg wMethod ∧ ∀ (a : Int) (vs : List Tk), vs ≠ [] → KW (ts' ++ vs) → Tl (ts' ++ vs) → (∃ f' : Mt, f'.er = f.er ∧ (rd a 1 (ts' ++ vs)).meth = (f', rd a 1 vs)) ∨ (rd a 1 (ts' ++ vs)).meth.2.code = 41
theorem methA {f : Mt} (hb : BA f.body) : MA f := by
  rintro ts ⟨_, _, rfl, ⟨t, rfl, ht⟩, _, _, rfl, ⟨m, rfl, hm⟩, bs0, _, rfl, hbs, hn1⟩
  have hn1 : _ = [] := hn1
  subst hn1
  have t1 := isS_sg.1 ht
  have k1 := isN_nm.1 hm
  obtain ⟨bt, bs, rfl, b2, b3⟩ := hb bs0 hbs
  refine ⟨t, m :: bt :: bs, by simp, t1, fun a vs hv hw hl => ?_⟩
  have el : m :: bt :: bs ++ vs = m :: (bt :: bs ++ vs) := by simp
  rw [el] at hl hw ⊢
  unfold Rd.meth
  rw [rd_name a 1 (by simp) k1]
  dsimp only
  rcases b3 a 1 vs (by decide) (by decide) hv hw.tail (hl.tail (by simp)) with ⟨b', g1, g2⟩ | hb
  · exact .inl ⟨⟨f.name, b', m.pl⟩, by unfold Mt.er; rw [g1], by rw [g2]⟩
  · exact .inr hb
theorem methsA : ∀ (l : List Mt), (∀ f ∈ l, MA f) → ∀ ts, seqR (l.map mtR') ts → l.length ≤ ts.length ∧ (∀ t ∈ ts.head?, t.sg wMethod) ∧ ∀ (a : Int) (acc : List Mt) (f : Nat) (vs : List Tk), l.length < f → acc.length + l.length ≤ 16 → vs ≠ [] → noW wMethod vs → KW (ts ++ vs) → Tl (ts ++ vs) →
    (∃ l' : List Mt, l'.map Mt.er = l.map Mt.er ∧ methsF f acc (rd a 1 (ts ++ vs)) = (acc ++ l', rd a 1 vs)) ∨ (methsF f acc (rd a 1 (ts ++ vs))).2.code = 41
  | [], _, ts, h => by
    have h : ts = [] := h
    subst h
    refine ⟨Nat.le_refl _, by simp, fun a acc f vs hf _ hv hn _ _ => .inl ⟨[], rfl, ?_⟩⟩
    cases f with
    | zero => simp at hf
    | succ f => rw [List.nil_append, methsF, if_neg (noW_is hv hn), List.append_nil]
  | v :: r, hA, ts, h => by
    obtain ⟨ts1, ts2, rfl, h1, h2⟩ := h
    obtain ⟨t, ts1', rfl, m2, m3⟩ := hA v List.mem_cons_self ts1 h1
    obtain ⟨kn, _, k2⟩ := methsA r (fun c hc => hA c (List.mem_cons_of_mem _ hc)) ts2 h2
    refine ⟨by simp; omega, fun u hu => by simp at hu; subst hu; exact m2, fun a acc f vs hf hacc hv hn hw hl => ?_⟩
    have el : t :: ts1' ++ ts2 ++ vs = t :: (ts1' ++ (ts2 ++ vs)) := by simp
    rw [el] at hl hw ⊢
    have hne : ts2 ++ vs ≠ [] := by simp [hv]
    have hl1 := hl.tail (by simp [hv])
    have hacc' : acc.length + (r.length + 1) ≤ 16 := hacc
    have hf' : r.length + 1 < f := hf
    cases f with
    | zero => omega
    | succ f =>
    rw [methsF, if_pos (is_yes m2), room_ok (by omega), rd_take a 1 t (by simp [hv])]
    rcases m3 a (ts2 ++ vs) hne hw.tail hl1 with ⟨v', e1, e2⟩ | hb
    · rw [e2]
      dsimp only
      rcases k2 a (acc ++ [v']) f vs (by omega) (by simp; omega) hv hn hw.tail.drop (hl1.drop hne) with ⟨l', f1, f2⟩ | hb
      · exact .inl ⟨v' :: l', by rw [List.map_cons, List.map_cons, e1, f1], by rw [f2]; simp⟩
      · exact .inr hb
    · rw [bad_meths (bad41 hb)]
      exact .inr hb
/-! ### monitors -/
structure MoH (m : Mo) : Prop where
  vlen : m.vars.length ≤ 16
  mlen : m.methods.length ≤ 16
  vars : ∀ v ∈ m.vars, VA v
  meths : ∀ f ∈ m.methods, MA f
def OA (m : Mo) : Prop := ∀ ts, monR m ts → ∃ t ts', ts = t :: ts' ∧ t.sg wMonitor ∧ (∃ k u, ts = k ++ [u] ∧ u.sg [125]) ∧ ∀ (a : Int) (vs : List Tk), vs ≠ [] → KW (ts' ++ vs) → Tl (ts' ++ vs) → (∃ m' : Mo, m'.er = m.er ∧ (rd a 0 (ts' ++ vs)).mon = (m', rd a 0 vs)) ∨ (rd a 0 (ts' ++ vs)).mon.2.code = 41
theorem monA {m : Mo} (h : MoH m) : OA m := by
  rintro ts ⟨_, _, rfl, ⟨_, fs, rfl, ⟨_, xs, rfl, ⟨_, _, rfl, ⟨t, rfl, ht⟩, _, _, rfl, ⟨n, rfl, hn⟩, _, _, rfl, ⟨b, rfl, hb⟩, hn1⟩, hxs⟩, hfs⟩, ⟨u, rfl, hu⟩⟩
  have hn1 : _ = [] := hn1
  subst hn1
  have t1 := isS_sg.1 ht
  have n1 := isN_nm.1 hn
  have b1 := isS_sg.1 hb
  have u1 := isS_sg.1 hu
  obtain ⟨xn, x2⟩ := varsA m.vars h.vars xs hxs
  obtain ⟨fn, f2, f3⟩ := methsA m.methods h.meths fs hfs
  refine ⟨t, n :: b :: (xs ++ (fs ++ [u])), by simp, t1, ⟨_, u, rfl, u1⟩, fun a vs hv hw hl => ?_⟩
  have el : n :: b :: (xs ++ (fs ++ [u])) ++ vs = n :: b :: (xs ++ (fs ++ (u :: vs))) := by simp
  rw [el] at hl hw ⊢
  have hl1 := hl.tail (by simp)
  have hl2 := hl1.tail (by simp)
  have hl3 := hl2.drop (ts := xs) (by simp)
  have hnv : noW wVar (fs ++ (u :: vs)) := by
    cases fs with
    | nil => intro t ht; simp at ht; subst ht; exact sg_not u1 (by decide)
    | cons q fs => intro t ht; simp at ht; subst ht; exact sg_not (f2 q rfl) (by decide)
  have hnm : noW wMethod (u :: vs) := fun t ht => by simp at ht; subst ht; exact sg_not u1 (by decide)
  obtain ⟨l', p1, p2⟩ := x2 a 1 [] ((xs ++ (fs ++ (u :: vs))).length + 1) (fs ++ (u :: vs)) (by simp; omega) (by simpa using h.vlen) (by simp) hnv
  have hvars : (rd a 1 (xs ++ (fs ++ (u :: vs)))).vars = (l', rd a 1 (fs ++ (u :: vs))) := p2
  unfold Rd.mon
  rw [rd_name a 0 (by simp) n1]
  dsimp only
  rw [if_pos (is_yes b1), rd_enter a b (by simp) (by decide)]
  unfold Rd.monB
  have e0 : rd a (0 + 1) (xs ++ (fs ++ (u :: vs))) = rd a 1 (xs ++ (fs ++ (u :: vs))) := rfl
  rw [e0, hvars]
  dsimp only
  rcases f3 a [] ((fs ++ (u :: vs)).length + 1) (u :: vs) (by simp; omega) (by simpa using h.mlen) (by simp) hnm hw.tail.tail.drop hl3 with ⟨k', q1, q2⟩ | hb
  · have hmeths : (rd a 1 (fs ++ (u :: vs))).meths = (k', rd a 1 (u :: vs)) := q2
    refine .inl ⟨⟨m.name, l', k', n.pl⟩, by unfold Mo.er; rw [p1, q1], ?_⟩
    rw [hmeths]
    dsimp only
    rw [rd_must a 1 hv u1]
    have e2 : (rd a 1 vs).leave = rd a 0 vs := rd_leave a 0 vs
    rw [e2]
  · have hb : (rd a 1 (fs ++ (u :: vs))).meths.2.code = 41 := hb
    refine .inr ?_
    show ((rd a 1 (fs ++ (u :: vs))).meths.2.must [125]).leave.code = 41
    rw [bad_must (bad41 hb)]
    exact hb
/-! ### threads -/
structure RoH (r : Ro) : Prop where
  star : r.star = true → r.count = 0
  body : BA r.body
def TA (r : Ro) : Prop := ∀ ts, roleR r ts → ∃ t ts', ts = t :: ts' ∧ t.sg wThread ∧ (∃ k u, ts = k ++ [u] ∧ u.sg [125]) ∧ ∀ (a : Int) (vs : List Tk), vs ≠ [] → KW (ts' ++ vs) → Tl (ts' ++ vs) → (∃ r' : Ro, r'.er = r.er ∧ (rd a 0 (ts' ++ vs)).role = (r', rd a 0 vs)) ∨ (rd a 0 (ts' ++ vs)).role.2.code = 41
theorem body_last {b : List St} {ts : List Tk} (h : bodyR b ts) : ∃ k u, ts = k ++ [u] ∧ u.sg [125] := by
  obtain ⟨k, _, rfl, _, u, rfl, hu⟩ := h
  exact ⟨k, u, rfl, isS_sg.1 hu⟩
theorem roleA {r : Ro} (h : RoH r) : TA r := by
  rintro ts ⟨_, bs0, rfl, ⟨_, cs, rfl, ⟨_, _, rfl, ⟨t, rfl, ht⟩, _, _, rfl, ⟨n, rfl, hn⟩, hn1⟩, hcs⟩, hbs⟩
  have hn1 : _ = [] := hn1
  subst hn1
  have t1 := isS_sg.1 ht
  have n1 := isN_nm.1 hn
  obtain ⟨k0, u0, hk0, hu0⟩ := body_last hbs
  obtain ⟨bt, bs, rfl, b2, b3⟩ := h.body bs0 hbs
  cases hs : r.star with
  | true =>
    rw [if_pos hs] at hcs
    obtain ⟨c, rfl, hc⟩ := hcs
    have c1 := isS_sg.1 hc
    refine ⟨t, n :: c :: bt :: bs, by simp, t1, ⟨[t] ++ ([n] ++ []) ++ [c] ++ k0, u0, by rw [hk0]; simp, hu0⟩, fun a vs hv hw hl => ?_⟩
    have el : n :: c :: bt :: bs ++ vs = n :: c :: (bt :: bs ++ vs) := by simp
    rw [el] at hl hw ⊢
    unfold Rd.role
    rw [rd_name a 0 (by simp) n1]
    dsimp only
    unfold Rd.cnt
    rw [rd_next, if_neg (sg_kind c1).2.1, rd_must a 0 (by simp) c1]
    dsimp only
    rcases b3 a 0 vs (by decide) (by decide) hv hw.tail.tail ((hl.tail (by simp)).tail (by simp)) with ⟨b', g1, g2⟩ | hb
    · exact .inl ⟨⟨r.name, true, 0, b', n.pl⟩, by unfold Ro.er; rw [g1, hs, h.star hs], by rw [g2]⟩
    · exact .inr hb
  | false =>
    rw [if_neg (by rw [hs]; simp)] at hcs
    obtain ⟨c, rfl, hc⟩ := hcs
    have c1 := isI_nu.1 hc
    refine ⟨t, n :: c :: bt :: bs, by simp, t1, ⟨[t] ++ ([n] ++ []) ++ [c] ++ k0, u0, by rw [hk0]; simp, hu0⟩, fun a vs hv hw hl => ?_⟩
    have el : n :: c :: bt :: bs ++ vs = n :: c :: (bt :: bs ++ vs) := by simp
    rw [el] at hl hw ⊢
    unfold Rd.role
    rw [rd_name a 0 (by simp) n1]
    dsimp only
    unfold Rd.cnt
    rw [rd_next, if_pos c1.1, rd_take a 0 c (by simp)]
    dsimp only
    rcases b3 a 0 vs (by decide) (by decide) hv hw.tail.tail ((hl.tail (by simp)).tail (by simp)) with ⟨b', g1, g2⟩ | hb
    · exact .inl ⟨⟨r.name, false, r.count, b', n.pl⟩, by unfold Ro.er; rw [g1, hs], by rw [g2, c1.2]⟩
    · exact .inr hb
end Go.Proofs.YtmflfcbebeikcaaGreat.Q

namespace Go.Proofs.YtmflfcbebeikcaaGreat.Q
open Go.RowKit
variable [Amb]
theorem name_len {s : Str} (h : isName s = true) : s.length ≤ 32 := by
  unfold isName at h
  simp only [Bool.and_eq_true, decide_eq_true_eq] at h
  exact h.1.1.1.2
/-! ### expressions -/
/-- A part that has its shape, and is small. -/
structure PaS (x : Ex) : Prop where
  part : isPartS x = true
  kids : x.kids.length ≤ 2
  mon : x.mon.length ≤ 32
  name : x.name.length ≤ 32
theorem pas_mk {op n pl : Int} {kids : List Ex} (hk : (kids.length : Int) = partsS op) (h4 : op ≠ 4) (h0 : 0 ≤ n) (hn : op = 1 ∨ op = 7 ∨ n = 0) (hl : kids.length ≤ 2) : PaS ⟨op, [], [], n, kids, pl⟩ := by
  refine ⟨?_, hl, Nat.zero_le _, Nat.zero_le _⟩
  unfold isPartS
  have e4 : (op == 4) = false := by simpa using h4
  dsimp only
  rw [e4, hk]
  simp only [beq_self_eq_true, cond_false, Bool.and_self, Bool.true_and, decide_eq_true h0]
  rcases hn with rfl | rfl | rfl <;> simp
theorem pas_cons {e : Ex} (h : PaS e) (hk : ∀ y ∈ e.kids, ∀ z ∈ y.pre, PaS z) : ∀ z ∈ e.pre, PaS z := fun y hy => by
  rw [e.pre_eq, Ex.pres_map] at hy
  rcases List.mem_cons.1 hy with rfl | hy
  · exact h
  · obtain ⟨z, hz, hyz⟩ := List.mem_flatMap.1 hy
    exact hk z hz y hyz
theorem DE.shape {L : Nat} {ts : List Tk} {e : Ex} {d : Nat} (h : DE L ts e d) : GoodL ts → (∀ y ∈ e.pre, PaS y) ∧ e.pre.length ≤ ts.length := by
  induction h with
  | @par L t u ts e d ht h hu ih =>
    intro hg
    obtain ⟨h1, h3⟩ := ih (GoodL.take (GoodL.tail hg))
    exact ⟨h1, by simp; omega⟩
  | @num L t n pl ht =>
    intro hg
    obtain ⟨h1, h2⟩ := nu_good (hg t (by simp)) ht
    exact ⟨pas_cons (pas_mk rfl (by decide) h1 (.inl rfl) (by decide)) (by simp), by simp [Ex.pre_eq, Ex.pres_map]⟩
  | @tru L t pl ht =>
    intro hg
    exact ⟨pas_cons (pas_mk rfl (by decide) (Int.le_refl _) (.inr (.inr rfl)) (by decide)) (by simp), by simp [Ex.pre_eq, Ex.pres_map]⟩
  | @fls L t pl ht =>
    intro hg
    exact ⟨pas_cons (pas_mk rfl (by decide) (Int.le_refl _) (.inr (.inr rfl)) (by decide)) (by simp), by simp [Ex.pre_eq, Ex.pres_map]⟩
  | @var L t u v m n pl ht hu hv =>
    intro hg
    have h1 := nm_good (hg t (by simp)) ht
    have h2 := nm_good (hg v (by simp)) hv
    refine ⟨pas_cons ⟨?_, by show 0 ≤ 2; omega, name_len h1, name_len h2⟩ (by simp), by simp [Ex.pre_eq, Ex.pres_map]⟩
    unfold isPartS
    dsimp only
    rw [h1, h2]; rfl
  | @neg L t ts e d pl ht h ih =>
    intro hg
    obtain ⟨h1, h3⟩ := ih (GoodL.tail hg)
    exact ⟨pas_cons (pas_mk rfl (by decide) (Int.le_refl _) (.inr (.inr rfl)) (by simp)) (by simpa using h1), by rw [Ex.pre_eq, Ex.pres_map]; simp; omega⟩
  | @mul L t u ts n e d pl ht hu h ih =>
    intro hg
    obtain ⟨h1, h3⟩ := ih (GoodL.tail (GoodL.tail hg))
    obtain ⟨g1, g2⟩ := nu_good (hg t (by simp)) ht
    exact ⟨pas_cons (pas_mk rfl (by decide) g1 (.inr (.inl rfl)) (by simp)) (by simpa using h1), by rw [Ex.pre_eq, Ex.pres_map]; simp; omega⟩
  | @not L t ts e d pl hL3 ht h ih =>
    intro hg
    obtain ⟨h1, h3⟩ := ih (GoodL.tail hg)
    exact ⟨pas_cons (pas_mk rfl (by decide) (Int.le_refl _) (.inr (.inr rfl)) (by simp)) (by simpa using h1), by rw [Ex.pre_eq, Ex.pres_map]; simp; omega⟩
  | @bin L op rl l r s t ts us e f d g pl hr hLr h1 ht h2 i1 i2 =>
    intro hg
    have hlr : op ≠ 4 ∧ partsS op = 2 := by
      simp only [rules, List.mem_cons, Prod.mk.injEq, List.not_mem_nil, or_false] at hr
      rcases hr with h | h | h | h | h | h | h | h | h | h <;> obtain ⟨rfl, rfl, rfl, rfl, rfl⟩ := h <;> decide
    obtain ⟨o4, o2⟩ := hlr
    obtain ⟨a1, a3⟩ := i1 (GoodL.take hg)
    obtain ⟨b1, b3⟩ := i2 (GoodL.tail (GoodL.drop hg))
    exact ⟨pas_cons (pas_mk (by rw [o2]; rfl) o4 (Int.le_refl _) (.inr (.inr rfl)) (by simp)) (fun y hy => by simp at hy; rcases hy with rfl | rfl; exact a1; exact b1), by rw [Ex.pre_eq, Ex.pres_map]; simp; omega⟩
theorem pas_check {e : Ex} (h : ∀ y ∈ e.pre, PaS y) : checkS e = 0 := by
  unfold checkS
  rw [List.all_eq_true.2 fun y hy => (h y hy).part]; rfl
theorem pas_fits {e : Ex} (h : ∀ y ∈ e.pre, PaS y) (hl : e.pre.length ≤ 10000) : e.fits := ⟨by omega, fun y hy => by
  have := h y hy
  exact ⟨by have := this.kids; omega, by have := this.mon; omega, by have := this.name; omega⟩⟩
theorem ex0_fits : ex0.fits := by
  have e : ex0.pre = [ex0] := by kernel_rfl
  refine ⟨by rw [e]; decide, fun y hy => ?_⟩
  rw [e, List.mem_singleton] at hy
  subst hy
  exact ⟨by decide, by decide, by decide⟩
/-! ### readers that have not failed -/
structure Gq (r : Rd) (a o : Int) (l : List Tk) : Prop where
  e : r = rd a o l
  t : Tl l
  g : GoodL l
/-- What a reader took, and what it left. -/
def Took (k : Nat) (l : List Tk) (R : TR) (r : Rd) (a o : Int) : Prop := ∃ ts l', l = ts ++ l' ∧ R ts ∧ k ≤ ts.length ∧ Gq r a o l'
theorem Gq.m {r : Rd} {a o : Int} {l : List Tk} (h : Gq r a o l) : r.m = l.length := by rw [h.e]; rfl
theorem Gq.ok {r : Rd} {a o : Int} {l : List Tk} (h : Gq r a o l) (h0 : 0 ≤ o) (h1 : o ≤ 64) : r.ok := by rw [h.e]; exact h.t.ok h0 h1
theorem Gq.one {r' : Rd} {a o : Int} {t : Tk} {l : List Tk} {R : TR} (hr : R [t]) (hl : Tl l) (hg : GoodL (t :: l)) (e : r' = rd a o l) : Took 1 (t :: l) R r' a o := ⟨[t], l, rfl, hr, Nat.le_refl _, e, hl, hg.tail⟩
theorem Gq.must {r : Rd} {a o : Int} {l : List Tk} (h : Gq r a o l) {s : Str} (hc : (r.must s).code = 0) : Took 1 l (wR s) (r.must s) a o := by
  rw [h.e] at hc
  obtain ⟨t, rest, rfl, k, h2, h3⟩ := must_inv h.t hc
  exact Gq.one ⟨t, rfl, isS_sg.2 k⟩ h2 h.g (by rw [h.e]; exact h3)
theorem Gq.name {r : Rd} {a o : Int} {l : List Tk} (h : Gq r a o l) (hc : r.name.2.code = 0) : isName r.name.1.1 = true ∧ Took 1 l (nR r.name.1.1) r.name.2 a o := by
  rw [h.e] at hc
  obtain ⟨t, rest, rfl, k, h2, h3⟩ := name_inv h.t hc
  rw [h.e, h3]
  exact ⟨(h.g t (by simp)).1 k, Gq.one ⟨t, rfl, isN_nm.2 ⟨k, rfl⟩⟩ h2 h.g rfl⟩
theorem Gq.pair {r : Rd} {a o : Int} {l : List Tk} (h : Gq r a o l) (hc : r.pair.2.code = 0) : isName r.pair.1.1 = true ∧ isName r.pair.1.2 = true ∧ Took 1 l (pairR r.pair.1.1 r.pair.1.2) r.pair.2 a o := by
  rw [h.e] at hc
  obtain ⟨t, u, v, rest, rfl, k, k1, k2, h2, h3⟩ := pair_inv h.t hc
  rw [h.e, h3]
  exact ⟨(h.g t (by simp)).1 k, (h.g v (by simp)).1 k2, [t, u, v], rest, rfl, ⟨[t], [u, v], rfl, ⟨t, rfl, isN_nm.2 ⟨k, rfl⟩⟩, [u], [v], rfl, ⟨u, rfl, isS_sg.2 k1⟩, [v], [], rfl, ⟨v, rfl, isN_nm.2 ⟨k2, rfl⟩⟩, rfl⟩, by simp, rfl, h2, h.g.tail.tail.tail⟩
theorem Gq.expr {r : Rd} {a o : Int} {l : List Tk} (h : Gq r a o l) (h0 : 0 ≤ o) (h1 : o ≤ 64) (hl : l.length ≤ 10000) (hc : r.expr.2.code = 0) : checkS r.expr.1 = 0 ∧ r.expr.1.fits ∧ Took 1 l (freeR r.expr.1) r.expr.2 a o := by
  rw [h.e] at hc
  obtain ⟨ts, rest, d, rfl, h2, h3, h4, h5⟩ := expr_sound h0 h1 h.t hc
  obtain ⟨g1, g3⟩ := h4.shape h.g.take
  rw [h.e]
  exact ⟨pas_check g1, pas_fits g1 (by rw [List.length_append] at hl; omega), ts, rest, rfl, ⟨d, h4⟩, h4.ne, h3, h2, h.g.drop⟩
theorem Gq.take {r : Rd} {a o : Int} {l : List Tk} (h : Gq r a o l) (hk : r.next.kind ≠ 5) {R : TR} (hR : ∀ t, t = r.next → R [t]) : Took 1 l R r.take a o := by
  cases l with
  | nil => exact absurd rfl h.t.ne
  | cons t l =>
    rw [h.e, rd_next] at hk hR
    have hl := h.t.next hk
    exact Gq.one (hR t rfl) hl h.g (by rw [h.e]; exact rd_take a o t hl.ne)
theorem Gq.takeIs {r : Rd} {a o : Int} {l : List Tk} (h : Gq r a o l) {s : Str} (hi : r.is s = true) : Took 1 l (wR s) r.take a o := by
  cases l with
  | nil => exact absurd rfl h.t.ne
  | cons t l =>
    rw [h.e] at hi
    have ht := (rd_is a o t l s).1 hi
    have hl := h.t.next (sg_kind ht).2.2
    exact Gq.one ⟨t, rfl, isS_sg.2 ht⟩ hl h.g (by rw [h.e]; exact rd_take a o t hl.ne)
theorem Gq.enter {r : Rd} {a o : Int} {l : List Tk} (h : Gq r a o l) {s : Str} (hi : r.is s = true) (hc : r.enter.code = 0) : o < 64 ∧ Took 1 l (wR s) r.enter a (o + 1) := by
  cases l with
  | nil => exact absurd rfl h.t.ne
  | cons t l =>
    rw [h.e] at hi
    have ht := (rd_is a o t l s).1 hi
    have hl := h.t.next (sg_kind ht).2.2
    rw [h.e] at hc
    by_cases h64 : 64 ≤ o
    · have := (rd_enter_deep a t l h64).1; omega
    · exact ⟨by omega, Gq.one ⟨t, rfl, isS_sg.2 ht⟩ hl h.g (by rw [h.e]; exact rd_enter a t hl.ne (by omega))⟩
theorem Gq.leave {r : Rd} {a o : Int} {l : List Tk} (h : Gq r a (o + 1) l) : Gq r.leave a o l := ⟨by rw [h.e, rd_leave], h.t, h.g⟩
theorem Gq.good {r : Rd} {a o : Int} {l : List Tk} (h : Gq r a o l) : GoodT r.next := by
  cases l with
  | nil => exact absurd rfl h.t.ne
  | cons t l => rw [h.e]; exact h.g t (by simp)
theorem Gq.fail {r : Rd} {a o : Int} {l : List Tk} (h : Gq r a o l) {e : Int} : (r.fail e).code = e := by rw [h.e]; exact fail_code
theorem r64_0 : R64 0 := by unfold R64; decide
theorem Gq.wait {r : Rd} {a o : Int} {l : List Tk} (h : Gq r a o l) (hc : r.wait.2.code = 0) : 0 ≤ r.wait.1 ∧ Took 0 l (if 0 < r.wait.1 then iR r.wait.1 else seqR []) r.wait.2 a o := by
  unfold Rd.wait at hc ⊢
  by_cases hk : r.next.kind = 2
  · rw [if_pos hk] at hc ⊢
    by_cases hz : r.next.n = 0
    · rw [if_pos hz] at hc
      exfalso
      have h40 : (r.fail 40).code = 40 := h.fail
      have h41 : (r.fail 40).take = r.fail 40 := bad_take (by rw [h40]; decide)
      have hc' : (r.fail 40).take.code = 0 := hc
      rw [h41, h40] at hc'
      exact absurd hc' (by decide)
    · rw [if_neg hz] at hc ⊢
      have hgt := h.good.2 hk
      have h0 : 0 < r.next.n := by omega
      refine ⟨hgt.1, ?_⟩
      dsimp only
      rw [if_pos h0]
      obtain ⟨ts, l', e1, e2, e3, e4⟩ := h.take (R := iR r.next.n) (by rw [hk]; decide) (fun t ht => ⟨t, rfl, isI_nu.2 ⟨by rw [ht]; exact hk, by rw [ht]⟩⟩)
      exact ⟨ts, l', e1, e2, by omega, e4⟩
  · rw [if_neg hk] at hc ⊢
    exact ⟨Int.le_refl _, [], l, rfl, rfl, Nat.le_refl _, h⟩
end Go.Proofs.YtmflfcbebeikcaaGreat.Q

namespace Go.Proofs.YtmflfcbebeikcaaGreat.Q
open Go.RowKit
variable [Amb]
theorem nmT {s : Str} (h : isName s = true) : isNameW s true = true := nmW.2 h
theorem nmF : isNameW [] false = true := nmW'.2 rfl
theorem ex0_none : isNoneS ex0 = true := by kernel_rfl
structure RQ (y : St) : Prop where
  ok : y.ok = true
  sf : SF y
structure RLq (b : List St) : Prop where
  all : ∀ y ∈ b, RQ y
  len : b.length ≤ 10000
theorem RQ.mk' {kind : Int} {mon name : Str} {n : Int} {e : Ex} {blocks : List (List St)} {pl : Int} (hk : headOk kind mon name n e blocks.length = true) (he : e.fits) (hb : ∀ b ∈ blocks, RLq b) : RQ ⟨kind, mon, name, n, e, blocks, pl⟩ := by
  have hh := head_is hk
  have hm : mon.length ≤ 32 := by
    by_cases h : kind = 2 ∨ 7 ≤ kind
    · exact name_len (hh.mon h)
    · rw [hh.mon' h]; exact Nat.zero_le _
  have hnm : name.length ≤ 32 := by
    by_cases h : kind = 2 ∨ kind = 8
    · exact name_len (hh.name h)
    · rw [hh.name' h]; exact Nat.zero_le _
  have hlen : blocks.length ≤ 8 := by
    have h0 := hh.len0
    have h3 := hh.len3
    have h1 := hh.len1
    have h6 := hh.len6
    have := hh.k
    by_cases h : kind ≤ 2 ∨ 8 ≤ kind
    · have := h0 h; omega
    by_cases h : kind = 3
    · have := h3 h; omega
    by_cases h : kind = 6
    · have := h6 h; omega
    · have := h1 (by omega); omega
  refine ⟨?_, .mk (by omega) (by omega) he (by omega) (fun b hb' => by have := (hb b hb').len; omega) (fun b hb' y hy => ((hb b hb').all y hy).sf)⟩
  rw [St.ok, hk, St.okB_all, Bool.true_and, List.all_eq_true]
  intro b hb'
  rw [St.okL_all, List.all_eq_true]
  exact fun y hy => ((hb b hb').all y hy).ok
/-! ### the words -/
def wordK (k : Int) : Str := if k = 1 then [115, 107, 105, 112] else if k = 3 then [105, 102] else if k = 4 then [119, 104, 105, 108, 101] else if k = 5 then [108, 111, 111, 112] else if k = 6 then [99, 104, 111, 111, 115, 101] else if k = 7 then [115, 121, 110, 99] else if k = 8 then [99, 97, 108, 108] else if k = 9 then [119, 97, 105, 116] else if k = 10 then [110, 111, 116, 105, 102, 121] else [110, 111, 116, 105, 102, 121, 97, 108, 108]
theorem selI_word {s : Str} {d : Int} : ∀ {ks : List Str} {vs : List Int}, selI s ks vs d ≠ d → (s, selI s ks vs d) ∈ ks.zip vs
  | [], _, h => by simp [selI] at h
  | k :: ks, [], h => by simp [selI] at h
  | k :: ks, v :: vs, h => by
    unfold selI at h ⊢
    by_cases hk : (s == k) = true
    · rw [if_pos hk]
      have : s = k := by simpa using hk
      subst this
      exact List.mem_cons_self
    · rw [if_neg hk] at h ⊢
      exact List.mem_cons_of_mem _ (selI_word h)
theorem word_is {s : Str} (h : kindOf s ≠ 0) : s = wordK (kindOf s) := by
  have hm := selI_word h
  have key : ∀ p ∈ kindT.zip kindN, p.1 = wordK p.2 := by decide
  exact key _ hm
/-! ### single statements -/
theorem Gq.set {r : Rd} {a o : Int} {l : List Tk} (h : Gq r a o l) (h0 : 0 ≤ o) (h1 : o ≤ 64) (hN : l.length ≤ 10000) (hc : r.set_.2.code = 0) : RQ r.set_.1 ∧ Took 1 l (stR r.set_.1) r.set_.2 a o := by
  have c3 : ((r.pair.2.must [61]).expr.2.must [59]).code = 0 := hc
  have c2 : (r.pair.2.must [61]).expr.2.code = 0 := code_of (fun e => bad_must e _) c3
  have c1 : (r.pair.2.must [61]).code = 0 := code_of (fun e => bad_bin e 0) c2
  have c0 : r.pair.2.code = 0 := code_of (fun e => bad_must e _) c1
  obtain ⟨m1, m2, u1, l1, rfl, R1, n1, g1⟩ := h.pair c0
  obtain ⟨u2, l2, rfl, R2, n2, g2⟩ := g1.must c1
  simp only [List.length_append] at hN
  obtain ⟨e1, e2, u3, l3, rfl, R3, n3, g3⟩ := g2.expr h0 h1 (by omega) c2
  obtain ⟨u4, l4, rfl, R4, n4, g4⟩ := g3.must c3
  refine ⟨?_, u1 ++ (u2 ++ (u3 ++ (u4 ++ []))), l4, by simp, ?_, by simp; omega, g4⟩
  · show RQ ⟨2, r.pair.1.1, r.pair.1.2, 0, (r.pair.2.must [61]).expr.1, [], r.next.pl⟩
    refine RQ.mk' (headOk_mk (f := ⟨true, true, false, true, 0, 0⟩) rfl (by decide) (by decide) (by decide) (nmT m1) (nmT m2) (Int.le_refl _) (fun _ => rfl) ?_) e2 (by simp)
    rw [if_pos rfl, e1]; rfl
  · rw [stR_eq]
    exact (show seqR [pairR r.pair.1.1 r.pair.1.2, wR [61], freeR (r.pair.2.must [61]).expr.1, wR [59]] _ from ⟨_, _, rfl, R1, _, _, rfl, R2, _, _, rfl, R3, _, _, rfl, R4, rfl⟩)
/-- What stands behind a statement's word. -/
def Rest (k : Nat) (l : List Tk) (w : Str) (y : St) (r : Rd) (a o : Int) : Prop := Took k l (fun ts => ∀ t, isS w t = true → stR y (t :: ts)) r a o
theorem Gq.simple {r : Rd} {a o : Int} {l : List Tk} (h : Gq r a o l) {k pl : Int} (hk : k = 1 ∨ k = 8 ∨ k = 9 ∨ k = 10 ∨ k = 11) (hc : (r.simple k pl).2.code = 0) : RQ (r.simple k pl).1 ∧ Rest 1 l (wordK k) (r.simple k pl).1 (r.simple k pl).2 a o := by
  rcases hk with rfl | rfl | rfl | rfl | rfl
  · have e : r.simple 1 pl = (⟨1, [], [], 0, ex0, [], pl⟩, r.must [59]) := rfl
    rw [e] at hc ⊢
    obtain ⟨u1, l', rfl, R1, n, g⟩ := h.must hc
    refine ⟨RQ.mk' (headOk_mk (f := fo0) rfl (by decide) (by decide) (by decide) nmF nmF (Int.le_refl _) (fun _ => rfl) ex0_none) ex0_fits (by simp), u1 ++ [], l', by simp, fun t ht => ?_, by simpa using n, g⟩
    rw [stR_eq]
    exact (show seqR [wR [115, 107, 105, 112], wR [59]] (t :: (u1 ++ [])) from ⟨[t], _, rfl, ⟨t, rfl, ht⟩, _, _, rfl, R1, rfl⟩)
  · have e : r.simple 8 pl = (⟨8, r.pair.1.1, r.pair.1.2, 0, ex0, [], pl⟩, r.pair.2.must [59]) := rfl
    rw [e] at hc ⊢
    have c0 : r.pair.2.code = 0 := code_of (fun e => bad_must e _) hc
    obtain ⟨m1, m2, u1, l1, rfl, R1, n1, g1⟩ := h.pair c0
    obtain ⟨u2, l', rfl, R2, n, g⟩ := g1.must hc
    refine ⟨RQ.mk' (headOk_mk (f := ⟨true, true, false, false, 0, 0⟩) rfl (by decide) (by decide) (by decide) (nmT m1) (nmT m2) (Int.le_refl _) (fun _ => rfl) ex0_none) ex0_fits (by simp), u1 ++ (u2 ++ []), l', by simp, fun t ht => ?_, by simp; omega, g⟩
    rw [stR_eq]
    exact (show seqR [wR [99, 97, 108, 108], pairR r.pair.1.1 r.pair.1.2, wR [59]] (t :: (u1 ++ (u2 ++ []))) from ⟨[t], _, rfl, ⟨t, rfl, ht⟩, _, _, rfl, R1, _, _, rfl, R2, rfl⟩)
  · have e : r.simple 9 pl = (⟨9, r.name.1.1, [], r.name.2.wait.1, ex0, [], pl⟩, r.name.2.wait.2.must [59]) := rfl
    rw [e] at hc ⊢
    have c1 : r.name.2.wait.2.code = 0 := code_of (fun e => bad_must e _) hc
    have c0 : r.name.2.code = 0 := code_of (fun e => bad_wait e) c1
    obtain ⟨m1, u1, l1, rfl, R1, n1, g1⟩ := h.name c0
    obtain ⟨w1, u2, l2, rfl, R2, n2, g2⟩ := g1.wait c1
    obtain ⟨u3, l', rfl, R3, n, g⟩ := g2.must hc
    refine ⟨RQ.mk' (headOk_mk (f := ⟨true, false, true, false, 0, 0⟩) rfl (by decide) (by decide) (by decide) (nmT m1) nmF w1 (fun h => by cases h) ex0_none) ex0_fits (by simp), u1 ++ u2 ++ u3, l', by simp, fun t ht => ?_, by simp; omega, g⟩
    rw [stR_eq]
    exact (show then2 (then2 (seqR [wR [119, 97, 105, 116], nR r.name.1.1]) (if 0 < r.name.2.wait.1 then iR r.name.2.wait.1 else seqR [])) (wR [59]) (t :: (u1 ++ u2 ++ u3)) from ⟨t :: (u1 ++ u2), u3, rfl, ⟨t :: u1, u2, rfl, ⟨[t], u1, rfl, ⟨t, rfl, ht⟩, u1, [], by simp, R1, rfl⟩, R2⟩, R3⟩)
  · have e : r.simple 10 pl = (⟨10, r.name.1.1, [], 0, ex0, [], pl⟩, r.name.2.must [59]) := rfl
    rw [e] at hc ⊢
    have c0 : r.name.2.code = 0 := code_of (fun e => bad_must e _) hc
    obtain ⟨m1, u1, l1, rfl, R1, n1, g1⟩ := h.name c0
    obtain ⟨u2, l', rfl, R2, n, g⟩ := g1.must hc
    refine ⟨RQ.mk' (headOk_mk (f := ⟨true, false, false, false, 0, 0⟩) rfl (by decide) (by decide) (by decide) (nmT m1) nmF (Int.le_refl _) (fun _ => rfl) ex0_none) ex0_fits (by simp), u1 ++ (u2 ++ []), l', by simp, fun t ht => ?_, by simp; omega, g⟩
    rw [stR_eq]
    exact (show seqR [wR [110, 111, 116, 105, 102, 121], nR r.name.1.1, wR [59]] (t :: (u1 ++ (u2 ++ []))) from ⟨[t], _, rfl, ⟨t, rfl, ht⟩, _, _, rfl, R1, _, _, rfl, R2, rfl⟩)
  · have e : r.simple 11 pl = (⟨11, r.name.1.1, [], 0, ex0, [], pl⟩, r.name.2.must [59]) := rfl
    rw [e] at hc ⊢
    have c0 : r.name.2.code = 0 := code_of (fun e => bad_must e _) hc
    obtain ⟨m1, u1, l1, rfl, R1, n1, g1⟩ := h.name c0
    obtain ⟨u2, l', rfl, R2, n, g⟩ := g1.must hc
    refine ⟨RQ.mk' (headOk_mk (f := ⟨true, false, false, false, 0, 0⟩) rfl (by decide) (by decide) (by decide) (nmT m1) nmF (Int.le_refl _) (fun _ => rfl) ex0_none) ex0_fits (by simp), u1 ++ (u2 ++ []), l', by simp, fun t ht => ?_, by simp; omega, g⟩
    rw [stR_eq]
    exact (show seqR [wR [110, 111, 116, 105, 102, 121, 97, 108, 108], nR r.name.1.1, wR [59]] (t :: (u1 ++ (u2 ++ []))) from ⟨[t], _, rfl, ⟨t, rfl, ht⟩, _, _, rfl, R1, _, _, rfl, R2, rfl⟩)
/-! ### the goals, by the number of tokens -/
def Z1 (N : Nat) : Prop := ∀ (r : Rd) (a o : Int) (l : List Tk), Gq r a o l → 0 ≤ o → o ≤ 64 → l.length ≤ N → l.length ≤ 10000 → r.stmt.2.code = 0 → RQ r.stmt.1 ∧ Took 1 l (stR r.stmt.1) r.stmt.2 a o
def Z2 (N : Nat) : Prop := ∀ (r : Rd) (a o : Int) (l : List Tk) (k pl : Int), Gq r a o l → 0 ≤ o → o ≤ 64 → l.length ≤ N → l.length ≤ 10000 → 3 ≤ k ∧ k ≤ 7 → (r.comp k pl).2.code = 0 → RQ (r.comp k pl).1 ∧ Rest 0 l (wordK k) (r.comp k pl).1 (r.comp k pl).2 a o
def Z3 (N : Nat) : Prop := ∀ (r : Rd) (a o : Int) (l : List Tk) (acc : List (List St)), Gq r a o l → 0 ≤ o → o ≤ 64 → l.length ≤ N → l.length ≤ 10000 → acc.length ≤ 8 → (r.ors acc).2.code = 0 → ∃ q, (r.ors acc).1 = acc ++ q ∧ (acc ++ q).length ≤ 8 ∧ (∀ b ∈ q, RLq b) ∧ Took 0 l (fun ts => ∀ i, 0 < i → blksR [111, 114] i (q.map bodyR) ts) (r.ors acc).2 a o
def Z4 (N : Nat) : Prop := ∀ (r : Rd) (a o : Int) (l : List Tk), Gq r a o l → 0 ≤ o → o ≤ 64 → l.length ≤ N → l.length ≤ 10000 → r.block.2.code = 0 → RLq r.block.1 ∧ Took 1 l (bodyR r.block.1) r.block.2 a o
def Z5 (N : Nat) : Prop := ∀ (r : Rd) (a o : Int) (l : List Tk) (acc : List St), Gq r a o l → 0 ≤ o → o ≤ 64 → l.length ≤ N → l.length ≤ 10000 → (r.stmts acc).2.code = 0 → ∃ q, (r.stmts acc).1 = acc ++ q ∧ (∀ y ∈ q, RQ y) ∧ Took q.length l (seqR (q.map stR)) (r.stmts acc).2 a o
theorem z1_of {N : Nat} (h2 : ∀ M, M < N → Z2 M) : Z1 N := by
  intro r a o l h h0 h1 hN hl hc
  have hok := h.ok h0 h1
  rw [Rd.stmt_eq hok] at hc ⊢
  by_cases hk : r.next.kind = 1
  · rw [if_pos hk] at hc ⊢
    exact h.set h0 h1 hl hc
  rw [if_neg hk] at hc ⊢
  by_cases hk3 : ¬ r.next.kind = 3 ∨ kindOf r.next.text = 0
  · rw [if_pos hk3] at hc
    have hc' : (r.fail 40).code = 0 := hc
    rw [h.fail] at hc'
    exact absurd hc' (by decide)
  rw [if_neg hk3] at hc ⊢
  have h3 : r.next.kind = 3 := Classical.byContradiction fun e => hk3 (.inl e)
  have hkz : kindOf r.next.text ≠ 0 := fun e => hk3 (.inr e)
  have hw := word_is hkz
  obtain ⟨u1, l1, rfl, R1, n1, g1⟩ := h.take (R := one (isS (wordK (kindOf r.next.text)))) (by rw [h3]; decide) (fun t ht => ⟨t, rfl, isS_sg.2 ⟨.inl (by rw [ht]; exact h3), by rw [ht]; exact hw⟩⟩)
  obtain ⟨t, rfl, ht⟩ := R1
  have hlen : l1.length + 1 ≤ N ∧ l1.length ≤ 10000 := by simp only [List.length_append, List.length_singleton] at hN hl; omega
  by_cases hb : 3 ≤ kindOf r.next.text ∧ kindOf r.next.text ≤ 7
  · rw [if_pos hb] at hc ⊢
    obtain ⟨q1, u2, l', rfl, R2, n2, g⟩ := h2 l1.length (by omega) r.take a o l1 _ _ g1 h0 h1 (Nat.le_refl _) (by omega) hb hc
    exact ⟨q1, [t] ++ u2, l', by simp, R2 t ht, by simp, g⟩
  · rw [if_neg hb] at hc ⊢
    have := kindOf_in r.next.text
    obtain ⟨q1, u2, l', rfl, R2, n2, g⟩ := g1.simple (by omega) hc
    exact ⟨q1, [t] ++ u2, l', by simp, R2 t ht, by simp, g⟩
theorem z4_of {N : Nat} (h5 : ∀ M, M < N → Z5 M) : Z4 N := by
  intro r a o l h h0 h1 hN hl hc
  have hok := h.ok h0 h1
  rw [Rd.block_eq hok] at hc ⊢
  by_cases hi : r.is [123] = true
  · rw [if_pos hi] at hc ⊢
    have c2 : ((r.enter.stmts []).2.must [125]).code = 0 := hc
    have c1 : (r.enter.stmts []).2.code = 0 := code_of (fun e => bad_must e _) c2
    have c0 : r.enter.code = 0 := code_of (fun e => by rw [bad_stmts e]) c1
    obtain ⟨ho, u1, l1, rfl, R1, n1, g1⟩ := h.enter hi c0
    simp only [List.length_append] at hN hl
    obtain ⟨q, e2, q1, u2, l2, rfl, R2, n2, g2⟩ := h5 l1.length (by omega) r.enter a (o + 1) l1 [] g1 (by omega) (by omega) (Nat.le_refl _) (by omega) c1
    obtain ⟨u3, l3, rfl, R3, n3, g3⟩ := g2.must c2
    simp only [List.length_append] at hl
    rw [List.nil_append] at e2
    refine ⟨?_, u1 ++ u2 ++ u3, l3, by simp, ?_, by simp; omega, g3.leave⟩
    · show RLq (r.enter.stmts []).1
      rw [e2]
      exact ⟨q1, by omega⟩
    · show bodyR (r.enter.stmts []).1 _
      rw [e2]
      exact ⟨u1 ++ u2, u3, rfl, ⟨u1, u2, rfl, R1, R2⟩, R3⟩
  · rw [if_neg hi] at hc
    have hc' : (r.fail 40).code = 0 := hc
    rw [h.fail] at hc'
    exact absurd hc' (by decide)
theorem room_badq {r : Rd} {a o : Int} {l : List Tk} (h : Gq r a o l) {n most : Int} (hn : n ≥ most) : (r.room n most).take.code ≠ 0 := by
  unfold Rd.room
  rw [if_pos hn]
  have h6 : (r.fail 6).code = 6 := h.fail
  rw [bad_take (by rw [h6]; decide), h6]; decide
theorem z3_of {N : Nat} (h3 : ∀ M, M < N → Z3 M) (h4 : ∀ M, M < N → Z4 M) : Z3 N := by
  intro r a o l acc h h0 h1 hN hl ha hc
  have hok := h.ok h0 h1
  rw [Rd.ors_eq hok] at hc ⊢
  by_cases hi : r.is [111, 114] = true
  · rw [if_pos hi] at hc ⊢
    have c1 : (r.room acc.length 8).take.block.2.code = 0 := code_of (fun e => by rw [bad_ors e]) hc
    have c0 : (r.room acc.length 8).take.code = 0 := code_of (fun e => bad_block e) c1
    have hlt : acc.length < 8 := by
      rcases Nat.lt_or_ge acc.length 8 with h8 | h8
      · exact h8
      · exact absurd c0 (room_badq h (by omega))
    rw [room_ok (by omega)] at hc c1 ⊢
    obtain ⟨u1, l1, rfl, R1, n1, g1⟩ := h.takeIs hi
    simp only [List.length_append] at hN hl
    obtain ⟨b1, u2, l2, rfl, R2, n2, g2⟩ := h4 l1.length (by omega) r.take a o l1 g1 h0 h1 (Nat.le_refl _) (by omega) c1
    simp only [List.length_append] at hN hl
    obtain ⟨q, e3, q1, q2, u3, l3, rfl, R3, n3, g3⟩ := h3 l2.length (by omega) r.take.block.2 a o l2 (acc ++ [r.take.block.1]) g2 h0 h1 (Nat.le_refl _) (by omega) (by simp; omega) hc
    refine ⟨r.take.block.1 :: q, by rw [e3]; simp, by simpa using q1, fun b hb => ?_, u1 ++ u2 ++ u3, l3, by simp, fun i hi => ?_, Nat.zero_le _, g3⟩
    · rcases List.mem_cons.1 hb with rfl | hb
      · exact b1
      · exact q2 b hb
    · exact (show then2 (then2 (if 0 < i then wR [111, 114] else seqR []) (bodyR r.take.block.1)) (blksR [111, 114] (i + 1) (q.map bodyR)) (u1 ++ u2 ++ u3) from ⟨u1 ++ u2, u3, rfl, ⟨u1, u2, rfl, by rw [if_pos hi]; exact R1, R2⟩, R3 (i + 1) (by omega)⟩)
  · rw [if_neg hi] at hc ⊢
    exact ⟨[], by simp, by simpa using ha, by simp, [], l, rfl, fun i _ => rfl, Nat.zero_le _, h⟩
theorem z5_of {N : Nat} (h1' : Z1 N) (h5 : ∀ M, M < N → Z5 M) : Z5 N := by
  intro r a o l acc h h0 h1 hN hl hc
  have hok := h.ok h0 h1
  rw [Rd.stmts_eq hok] at hc ⊢
  by_cases hi : r.code = 0 ∧ ¬ r.is [125] = true
  · rw [if_pos hi] at hc ⊢
    have c1 : r.stmt.2.code = 0 := code_of (fun e => by rw [bad_stmts e]) hc
    obtain ⟨s1, u1, l1, rfl, R1, n1, g1⟩ := h1' r a o l h h0 h1 hN hl c1
    simp only [List.length_append] at hN hl
    obtain ⟨q, e2, q1, u2, l2, rfl, R2, n2, g2⟩ := h5 l1.length (by omega) r.stmt.2 a o l1 (acc ++ [r.stmt.1]) g1 h0 h1 (Nat.le_refl _) (by omega) hc
    refine ⟨r.stmt.1 :: q, by rw [e2]; simp, fun y hy => ?_, u1 ++ u2, l2, by simp, ⟨u1, u2, rfl, R1, R2⟩, by simp; omega, g2⟩
    rcases List.mem_cons.1 hy with rfl | hy
    · exact s1
    · exact q1 y hy
  · rw [if_neg hi] at hc ⊢
    exact ⟨[], by simp, by simp, [], l, rfl, rfl, Nat.le_refl _, h⟩
theorem blks_mk1 {w : Str} {R : TR} {ts : List Tk} (h : R ts) : blksR w 0 [R] ts := ⟨ts, [], by simp, ⟨[], ts, rfl, rfl, h⟩, rfl⟩
theorem z2_of {N : Nat} (h3 : Z3 N) (h4 : Z4 N) : Z2 N := by
  intro r a o l k pl h h0 h1 hN hl hk hc
  have hok := h.ok h0 h1
  rw [Rd.comp_eq hok] at hc ⊢
  have cb : (r.head k).2.block.2.code = 0 := by
    by_cases k3 : k = 3
    · rw [if_pos k3] at hc
      by_cases he : (r.head k).2.block.2.is [101, 108, 115, 101] = true
      · rw [if_pos he] at hc
        exact code_of (fun e => by rw [bad_take e, bad_block e]) (show (r.head k).2.block.2.take.block.2.code = 0 from hc)
      · rw [if_neg he] at hc; exact hc
    · rw [if_neg k3] at hc
      by_cases k6 : k = 6
      · rw [if_pos k6] at hc
        exact code_of (fun e => by rw [bad_ors e]) (show ((r.head k).2.block.2.ors [(r.head k).2.block.1]).2.code = 0 from hc)
      · rw [if_neg k6] at hc; exact hc
  have ch : (r.head k).2.code = 0 := code_of (fun e => bad_block e) cb
  have hkk : k = 3 ∨ k = 4 ∨ k = 5 ∨ k = 6 ∨ k = 7 := by omega
  rcases hkk with rfl | rfl | rfl | rfl | rfl
  · have eh : r.head 3 = (([], r.expr.1), r.expr.2) := rfl
    rw [eh] at hc cb ch ⊢
    dsimp only at hc cb ch ⊢
    rw [if_pos rfl] at hc ⊢
    obtain ⟨x1, x2, u1, l1, rfl, R1, n1, g1⟩ := h.expr h0 h1 hl ch
    simp only [List.length_append] at hN hl
    obtain ⟨b1, u2, l2, rfl, R2, n2, g2⟩ := h4 _ a o l1 g1 h0 h1 (by omega) (by omega) cb
    simp only [List.length_append] at hN hl
    have hex : (if (⟨false, false, false, true, 1, 2⟩ : Fo).ex = true then (checkS r.expr.1 == 0) else isNoneS r.expr.1) = true := by rw [if_pos rfl, x1]; rfl
    by_cases he : r.expr.2.block.2.is [101, 108, 115, 101] = true
    · rw [if_pos he] at hc ⊢
      obtain ⟨u3, l3, rfl, R3, n3, g3⟩ := g2.takeIs he
      simp only [List.length_append] at hN hl
      obtain ⟨d1, u4, l4, rfl, R4, n4, g4⟩ := h4 _ a o l3 g3 h0 h1 (by omega) (by omega) hc
      refine ⟨RQ.mk' (headOk_mk (f := ⟨false, false, false, true, 1, 2⟩) rfl (by decide) (show (1 : Int) ≤ 2 by decide) (show (2 : Int) ≤ 2 by decide) nmF nmF (Int.le_refl _) (fun _ => rfl) hex) x2 (fun b hb => ?_), u1 ++ ((u2 ++ (u3 ++ u4)) ++ []), l4, by simp, fun t ht => ?_, Nat.zero_le _, g4⟩
      · rcases List.mem_cons.1 hb with rfl | hb
        · exact b1
        · rw [List.mem_singleton.1 hb]; exact d1
      · rw [stR_eq]
        refine (show seqR [wR [105, 102], freeR r.expr.1, blksR [101, 108, 115, 101] 0 [bodyR r.expr.2.block.1, bodyR r.expr.2.block.2.take.block.1]] (t :: (u1 ++ ((u2 ++ (u3 ++ u4)) ++ []))) from ⟨[t], _, rfl, ⟨t, rfl, ht⟩, _, _, rfl, R1, _, _, rfl, ?_, rfl⟩)
        exact ⟨u2, u3 ++ u4, rfl, ⟨[], u2, rfl, rfl, R2⟩, u3 ++ u4, [], by simp, ⟨u3, u4, rfl, R3, R4⟩, rfl⟩
    · rw [if_neg he] at hc ⊢
      refine ⟨RQ.mk' (headOk_mk (f := ⟨false, false, false, true, 1, 2⟩) rfl (by decide) (show (1 : Int) ≤ 1 by decide) (show (1 : Int) ≤ 2 by decide) nmF nmF (Int.le_refl _) (fun _ => rfl) hex) x2 (fun b hb => by rw [List.mem_singleton.1 hb]; exact b1), u1 ++ (u2 ++ []), l2, by simp, fun t ht => ?_, Nat.zero_le _, g2⟩
      rw [stR_eq]
      exact (show seqR [wR [105, 102], freeR r.expr.1, blksR [101, 108, 115, 101] 0 [bodyR r.expr.2.block.1]] (t :: (u1 ++ (u2 ++ []))) from ⟨[t], _, rfl, ⟨t, rfl, ht⟩, _, _, rfl, R1, _, _, rfl, blks_mk1 R2, rfl⟩)
  · have eh : r.head 4 = (([], r.expr.1), r.expr.2) := rfl
    rw [eh] at hc cb ch ⊢
    dsimp only at hc cb ch ⊢
    rw [if_neg (by decide), if_neg (by decide)] at hc ⊢
    obtain ⟨x1, x2, u1, l1, rfl, R1, n1, g1⟩ := h.expr h0 h1 hl ch
    simp only [List.length_append] at hN hl
    obtain ⟨b1, u2, l2, rfl, R2, n2, g2⟩ := h4 _ a o l1 g1 h0 h1 (by omega) (by omega) cb
    have hex : (if (⟨false, false, false, true, 1, 1⟩ : Fo).ex = true then (checkS r.expr.1 == 0) else isNoneS r.expr.1) = true := by rw [if_pos rfl, x1]; rfl
    refine ⟨RQ.mk' (headOk_mk (f := ⟨false, false, false, true, 1, 1⟩) rfl (by decide) (show (1 : Int) ≤ 1 by decide) (show (1 : Int) ≤ 1 by decide) nmF nmF (Int.le_refl _) (fun _ => rfl) hex) x2 (fun b hb => by rw [List.mem_singleton.1 hb]; exact b1), u1 ++ (u2 ++ []), l2, by simp, fun t ht => ?_, Nat.zero_le _, g2⟩
    rw [stR_eq]
    exact (show seqR [wR [119, 104, 105, 108, 101], freeR r.expr.1, blksR [] 0 [bodyR r.expr.2.block.1]] (t :: (u1 ++ (u2 ++ []))) from ⟨[t], _, rfl, ⟨t, rfl, ht⟩, _, _, rfl, R1, _, _, rfl, blks_mk1 R2, rfl⟩)
  · have eh : r.head 5 = (([], ex0), r) := rfl
    rw [eh] at hc cb ch ⊢
    dsimp only at hc cb ch ⊢
    rw [if_neg (by decide), if_neg (by decide)] at hc ⊢
    obtain ⟨b1, u2, l2, rfl, R2, n2, g2⟩ := h4 _ a o l h h0 h1 (by omega) (by omega) cb
    refine ⟨RQ.mk' (headOk_mk (f := ⟨false, false, false, false, 1, 1⟩) rfl (by decide) (show (1 : Int) ≤ 1 by decide) (show (1 : Int) ≤ 1 by decide) nmF nmF (Int.le_refl _) (fun _ => rfl) ex0_none) ex0_fits (fun b hb => by rw [List.mem_singleton.1 hb]; exact b1), u2 ++ [], l2, by simp, fun t ht => ?_, Nat.zero_le _, g2⟩
    rw [stR_eq]
    exact (show seqR [wR [108, 111, 111, 112], blksR [] 0 [bodyR r.block.1]] (t :: (u2 ++ [])) from ⟨[t], _, rfl, ⟨t, rfl, ht⟩, _, _, rfl, blks_mk1 R2, rfl⟩)
  · have eh : r.head 6 = (([], ex0), r) := rfl
    rw [eh] at hc cb ch ⊢
    dsimp only at hc cb ch ⊢
    rw [if_neg (by decide), if_pos rfl] at hc ⊢
    obtain ⟨b1, u2, l2, rfl, R2, n2, g2⟩ := h4 _ a o l h h0 h1 (by omega) (by omega) cb
    simp only [List.length_append] at hN hl
    obtain ⟨q, e3, q1, q2, u3, l3, rfl, R3, n3, g3⟩ := h3 _ a o l2 [r.block.1] g2 h0 h1 (by omega) (by omega) (show 1 ≤ 8 by decide) hc
    dsimp only
    rw [e3]
    refine ⟨RQ.mk' (headOk_mk (f := ⟨false, false, false, false, 1, 8⟩) rfl (by decide) (by simp; omega) (by dsimp only; omega) nmF nmF (Int.le_refl _) (fun _ => rfl) ex0_none) ex0_fits (fun b hb => ?_), (u2 ++ u3) ++ [], l3, by simp, fun t ht => ?_, Nat.zero_le _, g3⟩
    · rcases List.mem_append.1 hb with hb | hb
      · rw [List.mem_singleton.1 hb]; exact b1
      · exact q2 b hb
    · rw [stR_eq]
      refine (show seqR [wR [99, 104, 111, 111, 115, 101], blksR [111, 114] 0 (bodyR r.block.1 :: q.map bodyR)] (t :: ((u2 ++ u3) ++ [])) from ⟨[t], _, rfl, ⟨t, rfl, ht⟩, _, _, rfl, ?_, rfl⟩)
      exact ⟨u2, u3, rfl, ⟨[], u2, rfl, rfl, R2⟩, R3 1 (by decide)⟩
  · have eh : r.head 7 = ((r.name.1.1, ex0), r.name.2) := rfl
    rw [eh] at hc cb ch ⊢
    dsimp only at hc cb ch ⊢
    rw [if_neg (by decide), if_neg (by decide)] at hc ⊢
    obtain ⟨m1, u1, l1, rfl, R1, n1, g1⟩ := h.name ch
    simp only [List.length_append] at hN hl
    obtain ⟨b1, u2, l2, rfl, R2, n2, g2⟩ := h4 _ a o l1 g1 h0 h1 (by omega) (by omega) cb
    refine ⟨RQ.mk' (headOk_mk (f := ⟨true, false, false, false, 1, 1⟩) rfl (by decide) (show (1 : Int) ≤ 1 by decide) (show (1 : Int) ≤ 1 by decide) (nmT m1) nmF (Int.le_refl _) (fun _ => rfl) ex0_none) ex0_fits (fun b hb => by rw [List.mem_singleton.1 hb]; exact b1), u1 ++ (u2 ++ []), l2, by simp, fun t ht => ?_, Nat.zero_le _, g2⟩
    rw [stR_eq]
    exact (show seqR [wR [115, 121, 110, 99], nR r.name.1.1, blksR [] 0 [bodyR r.name.2.block.1]] (t :: (u1 ++ (u2 ++ []))) from ⟨[t], _, rfl, ⟨t, rfl, ht⟩, _, _, rfl, R1, _, _, rfl, blks_mk1 R2, rfl⟩)
theorem z_all (N : Nat) : Z1 N ∧ Z2 N ∧ Z3 N ∧ Z4 N ∧ Z5 N := by
  induction N using Nat.strongRecOn with
  | _ N ih =>
    have h4 : Z4 N := z4_of fun M hM => (ih M hM).2.2.2.2
    have h3 : Z3 N := z3_of (fun M hM => (ih M hM).2.2.1) fun M hM => (ih M hM).2.2.2.1
    have h1 : Z1 N := z1_of fun M hM => (ih M hM).2.1
    exact ⟨h1, z2_of h3 h4, h3, h4, z5_of h1 fun M hM => (ih M hM).2.2.2.2⟩
/-- A block that is parsed. -/
theorem Gq.block {r : Rd} {a o : Int} {l : List Tk} (h : Gq r a o l) (h0 : 0 ≤ o) (h1 : o ≤ 64) (hl : l.length ≤ 10000) (hc : r.block.2.code = 0) : RLq r.block.1 ∧ Took 1 l (bodyR r.block.1) r.block.2 a o :=
  (z_all l.length).2.2.2.1 r a o l h h0 h1 (Nat.le_refl _) hl hc
end Go.Proofs.YtmflfcbebeikcaaGreat.Q

namespace Go.Proofs.YtmflfcbebeikcaaGreat.Q
open Go.RowKit
variable [Amb]
/-! ### variables -/
theorem Gq.of2 {r : Rd} {a o : Int} {l : List Tk} (h : Gq r a o l) (hc : (r.of 2).2.code = 0) : (0 ≤ (r.of 2).1.n ∧ (r.of 2).1.n < 9223372036854775808) ∧ Took 1 l (iR (r.of 2).1.n) (r.of 2).2 a o := by
  rw [h.e] at hc
  obtain ⟨t, rest, rfl, k, h2, h3⟩ := of_inv h.t (by decide) (by decide) hc
  rw [h.e, h3]
  exact ⟨(h.g t (by simp)).2 k, Gq.one ⟨t, rfl, isI_nu.2 ⟨k, rfl⟩⟩ h2 h.g rfl⟩
def NumOk (n : Int) : Prop := R64 n ∧ n ≠ -9223372036854775808
theorem num0 : NumOk 0 := ⟨r64_0, by decide⟩
theorem num1 : NumOk 1 := ⟨by unfold R64; decide, by decide⟩
theorem Gq.whole {r : Rd} {a o : Int} {l : List Tk} (h : Gq r a o l) (hc : r.whole.2.code = 0) : NumOk r.whole.1 ∧ Took 1 l (wholeR r.whole.1) r.whole.2 a o := by
  by_cases hi : r.is [45] = true
  · obtain ⟨u1, l1, rfl, R1, n1, g1⟩ := h.takeIs hi
    have em : r.may [45] = (true, r.take) := by unfold Rd.may; rw [if_pos hi]
    have ew : r.whole = (IntKind.i64.wrap (0 - (r.take.of 2).1.n), (r.take.of 2).2) := by
      unfold Rd.whole
      rw [em]
      dsimp only
      rw [if_pos rfl]
    rw [ew] at hc ⊢
    obtain ⟨⟨b1, b2⟩, u2, l2, rfl, R2, n2, g2⟩ := g1.of2 hc
    have e1 : IntKind.i64.wrap (0 - (r.take.of 2).1.n) = 0 - (r.take.of 2).1.n := wrap_in (by unfold R64; omega)
    have e2 : IntKind.i64.wrap (0 - (0 - (r.take.of 2).1.n)) = (r.take.of 2).1.n := by
      rw [wrap_in (by unfold R64; omega)]; omega
    refine ⟨?_, u1 ++ u2, l2, by simp, .inr ⟨u1, u2, rfl, R1, ?_⟩, by simp; omega, g2⟩
    · dsimp only
      rw [e1]
      exact ⟨by unfold R64; omega, by omega⟩
    · dsimp only
      rw [e1, e2]
      exact R2
  · have em : r.may [45] = (false, r) := by unfold Rd.may; rw [if_neg hi]
    have ew : r.whole = ((r.of 2).1.n, (r.of 2).2) := by
      unfold Rd.whole
      rw [em]
      dsimp only
      rw [if_neg (by decide)]
    rw [ew] at hc ⊢
    obtain ⟨⟨b1, b2⟩, u2, l2, e, R2, n2, g2⟩ := h.of2 hc
    exact ⟨⟨by unfold R64; omega, by omega⟩, u2, l2, e, .inl R2, n2, g2⟩
theorem Gq.fin {r : Rd} {a o : Int} {l : List Tk} (h : Gq r a o l) (hc : r.fin.2.code = 0) : NumOk r.fin.1 ∧ Took 1 l (seqR [wR [61], wholeR r.fin.1, wR [59]]) r.fin.2 a o := by
  have c2 : ((r.must [61]).whole.2.must [59]).code = 0 := hc
  have c1 : (r.must [61]).whole.2.code = 0 := code_of (fun e => bad_must e _) c2
  have c0 : (r.must [61]).code = 0 := code_of (fun e => bad_whole e) c1
  obtain ⟨u1, l1, rfl, R1, n1, g1⟩ := h.must c0
  obtain ⟨b, u2, l2, rfl, R2, n2, g2⟩ := g1.whole c1
  obtain ⟨u3, l3, rfl, R3, n3, g3⟩ := g2.must c2
  exact ⟨b, u1 ++ (u2 ++ (u3 ++ [])), l3, by simp, ⟨_, _, rfl, R1, _, _, rfl, R2, _, _, rfl, R3, rfl⟩, by simp; omega, g3⟩
theorem Gq.bol {r : Rd} {a o : Int} {l : List Tk} (h : Gq r a o l) (hc : r.bol.2.code = 0) : (r.bol.1 = 0 ∨ r.bol.1 = 1) ∧ Took 1 l (seqR [wR [61], wR (if r.bol.1 = 1 then [116, 114, 117, 101] else [102, 97, 108, 115, 101]), wR [59]]) r.bol.2 a o := by
  unfold Rd.bol at hc ⊢
  by_cases hi : (r.must [61]).is [116, 114, 117, 101] = true
  · rw [if_pos hi] at hc ⊢
    have c1 : (r.must [61]).take.code = 0 := code_of (fun e => bad_must e _) hc
    have c0 : (r.must [61]).code = 0 := code_of (fun e => bad_take e) c1
    obtain ⟨u1, l1, rfl, R1, n1, g1⟩ := h.must c0
    obtain ⟨u2, l2, rfl, R2, n2, g2⟩ := g1.takeIs hi
    obtain ⟨u3, l3, rfl, R3, n3, g3⟩ := g2.must hc
    exact ⟨.inr rfl, u1 ++ (u2 ++ (u3 ++ [])), l3, by simp, ⟨_, _, rfl, R1, _, _, rfl, R2, _, _, rfl, R3, rfl⟩, by simp; omega, g3⟩
  · rw [if_neg hi] at hc ⊢
    have c1 : ((r.must [61]).must [102, 97, 108, 115, 101]).code = 0 := code_of (fun e => bad_must e _) hc
    have c0 : (r.must [61]).code = 0 := code_of (fun e => bad_must e _) c1
    obtain ⟨u1, l1, rfl, R1, n1, g1⟩ := h.must c0
    obtain ⟨u2, l2, rfl, R2, n2, g2⟩ := g1.must c1
    obtain ⟨u3, l3, rfl, R3, n3, g3⟩ := g2.must hc
    exact ⟨.inl rfl, u1 ++ (u2 ++ (u3 ++ [])), l3, by simp, ⟨_, _, rfl, R1, _, _, rfl, R2, _, _, rfl, R3, rfl⟩, by simp; omega, g3⟩
theorem Gq.rng {r : Rd} {a o : Int} {l : List Tk} (h : Gq r a o l) (hc : r.rng.2.code = 0) : NumOk r.rng.1.1 ∧ NumOk r.rng.1.2 ∧ r.rng.1.1 ≤ r.rng.1.2 ∧ Took 1 l (seqR [wholeR r.rng.1.1, wR [46, 46], wholeR r.rng.1.2]) r.rng.2 a o := by
  unfold Rd.rng at hc ⊢
  dsimp only at hc ⊢
  by_cases hi : (r.whole.2.must [46, 46]).whole.1 < r.whole.1 ∧ (r.whole.2.must [46, 46]).whole.2.code = 0
  · rw [if_pos hi] at hc
    exact absurd hc (by show ¬ (40 : Int) = 0; decide)
  · rw [if_neg hi] at hc ⊢
    have c1 : (r.whole.2.must [46, 46]).code = 0 := code_of (fun e => bad_whole e) hc
    have c0 : r.whole.2.code = 0 := code_of (fun e => bad_must e _) c1
    obtain ⟨b1, u1, l1, rfl, R1, n1, g1⟩ := h.whole c0
    obtain ⟨u2, l2, rfl, R2, n2, g2⟩ := g1.must c1
    obtain ⟨b3, u3, l3, rfl, R3, n3, g3⟩ := g2.whole hc
    refine ⟨b1, b3, ?_, u1 ++ (u2 ++ (u3 ++ [])), l3, by simp, ⟨_, _, rfl, R1, _, _, rfl, R2, _, _, rfl, R3, rfl⟩, by simp; omega, g3⟩
    rcases Int.lt_or_le (r.whole.2.must [46, 46]).whole.1 r.whole.1 with h5 | h5
    · exact absurd ⟨h5, hc⟩ hi
    · exact h5
structure RVq (v : Vr) : Prop where
  ok : v.ok = true
  h : VrH v
  name : v.name.length ≤ 32
theorem vr_okq {nm : Str} {ty lo hi init pl : Int} (hn : isName nm = true) (h1 : NumOk lo) (h2 : NumOk hi) (h3 : NumOk init) (hk : (ty = 1 ∧ lo = 0 ∧ hi = 0 ∧ (init = 0 ∨ init = 1)) ∨ (ty = 2 ∧ lo = 0 ∧ hi = 0) ∨ (ty = 3 ∧ lo ≤ hi)) : RVq ⟨nm, ty, lo, hi, init, pl⟩ := by
  obtain ⟨a1, a2⟩ := h1
  obtain ⟨b1, b2⟩ := h2
  obtain ⟨c1, c2⟩ := h3
  refine ⟨?_, ⟨a1, b1, c1, hk⟩, name_len hn⟩
  unfold Vr.ok
  dsimp only
  have hmin : (minI lo [hi, init] == -9223372036854775808) = false := by
    rw [beq_eq_false_iff_ne]
    simp only [minI]
    repeat' split
    all_goals omega
  rw [hn, hmin]
  rcases hk with ⟨rfl, rfl, rfl, rfl | rfl⟩ | ⟨rfl, rfl, rfl⟩ | ⟨rfl, h⟩
  · rfl
  · rfl
  · rfl
  · rw [if_neg (by decide), if_neg (by decide), if_pos rfl, decide_eq_true h]; rfl
/-- What stands behind a word. -/
def RestV (l : List Tk) (w : Str) (R : TR) (r : Rd) (a o : Int) : Prop := Took 1 l (fun ts => ∀ t, isS w t = true → R (t :: ts)) r a o
theorem Gq.var {r : Rd} {a o : Int} {l : List Tk} (h : Gq r a o l) (hc : r.var.2.code = 0) : RVq r.var.1 ∧ RestV l wVar (varR r.var.1) r.var.2 a o := by
  unfold Rd.var at hc ⊢
  by_cases hb : (r.name.2.must [58]).is [98, 111, 111, 108] = true
  · rw [if_pos hb] at hc ⊢
    have c2 : (r.name.2.must [58]).take.code = 0 := code_of (fun e => bad_bol e) hc
    have c1 : (r.name.2.must [58]).code = 0 := code_of (fun e => bad_take e) c2
    have c0 : r.name.2.code = 0 := code_of (fun e => bad_must e _) c1
    obtain ⟨m1, u1, l1, rfl, R1, n1, g1⟩ := h.name c0
    obtain ⟨u2, l2, rfl, R2, n2, g2⟩ := g1.must c1
    obtain ⟨u3, l3, rfl, R3, n3, g3⟩ := g2.takeIs hb
    obtain ⟨b4, u4, l4, rfl, R4, n4, g4⟩ := g3.bol hc
    refine ⟨vr_okq m1 num0 num0 ?_ (.inl ⟨rfl, rfl, rfl, b4⟩), (u1 ++ (u2 ++ [])) ++ (u3 ++ u4), l4, by simp, fun t ht => ?_, by simp; omega, g4⟩
    · rcases b4 with e | e <;> rw [e]
      · exact num0
      · exact num1
    · exact (show then2 (seqR [wR wVar, nR r.name.1.1, wR [58]]) (seqR [wR [98, 111, 111, 108], wR [61], wR (if (r.name.2.must [58]).take.bol.1 = 1 then [116, 114, 117, 101] else [102, 97, 108, 115, 101]), wR [59]]) (t :: ((u1 ++ (u2 ++ [])) ++ (u3 ++ u4))) from ⟨t :: (u1 ++ (u2 ++ [])), u3 ++ u4, rfl, ⟨[t], _, rfl, ⟨t, rfl, ht⟩, _, _, rfl, R1, _, _, rfl, R2, rfl⟩, u3, u4, rfl, R3, R4⟩)
  rw [if_neg hb] at hc ⊢
  by_cases hi : (r.name.2.must [58]).is [105, 110, 116] = true
  · rw [if_pos hi] at hc ⊢
    have c2 : (r.name.2.must [58]).take.code = 0 := code_of (fun e => bad_fin e) hc
    have c1 : (r.name.2.must [58]).code = 0 := code_of (fun e => bad_take e) c2
    have c0 : r.name.2.code = 0 := code_of (fun e => bad_must e _) c1
    obtain ⟨m1, u1, l1, rfl, R1, n1, g1⟩ := h.name c0
    obtain ⟨u2, l2, rfl, R2, n2, g2⟩ := g1.must c1
    obtain ⟨u3, l3, rfl, R3, n3, g3⟩ := g2.takeIs hi
    obtain ⟨b4, u4, l4, rfl, R4, n4, g4⟩ := g3.fin hc
    refine ⟨vr_okq m1 num0 num0 b4 (.inr (.inl ⟨rfl, rfl, rfl⟩)), (u1 ++ (u2 ++ [])) ++ (u3 ++ u4), l4, by simp, fun t ht => ?_, by simp; omega, g4⟩
    exact (show then2 (seqR [wR wVar, nR r.name.1.1, wR [58]]) (then2 (wR [105, 110, 116]) (seqR [wR [61], wholeR (r.name.2.must [58]).take.fin.1, wR [59]])) (t :: ((u1 ++ (u2 ++ [])) ++ (u3 ++ u4))) from ⟨t :: (u1 ++ (u2 ++ [])), u3 ++ u4, rfl, ⟨[t], _, rfl, ⟨t, rfl, ht⟩, _, _, rfl, R1, _, _, rfl, R2, rfl⟩, u3, u4, rfl, R3, R4⟩)
  · rw [if_neg hi] at hc ⊢
    have c2 : (r.name.2.must [58]).rng.2.code = 0 := code_of (fun e => bad_fin e) hc
    have c1 : (r.name.2.must [58]).code = 0 := code_of (fun e => bad_rng e) c2
    have c0 : r.name.2.code = 0 := code_of (fun e => bad_must e _) c1
    obtain ⟨m1, u1, l1, rfl, R1, n1, g1⟩ := h.name c0
    obtain ⟨u2, l2, rfl, R2, n2, g2⟩ := g1.must c1
    obtain ⟨b1, b2, b3, u3, l3, rfl, R3, n3, g3⟩ := g2.rng c2
    obtain ⟨b4, u4, l4, rfl, R4, n4, g4⟩ := g3.fin hc
    refine ⟨vr_okq m1 b1 b2 b4 (.inr (.inr ⟨rfl, b3⟩)), (u1 ++ (u2 ++ [])) ++ (u3 ++ u4), l4, by simp, fun t ht => ?_, by simp; omega, g4⟩
    exact (show then2 (seqR [wR wVar, nR r.name.1.1, wR [58]]) (then2 (seqR [wholeR (r.name.2.must [58]).rng.1.1, wR [46, 46], wholeR (r.name.2.must [58]).rng.1.2]) (seqR [wR [61], wholeR (r.name.2.must [58]).rng.2.fin.1, wR [59]])) (t :: ((u1 ++ (u2 ++ [])) ++ (u3 ++ u4))) from ⟨t :: (u1 ++ (u2 ++ [])), u3 ++ u4, rfl, ⟨[t], _, rfl, ⟨t, rfl, ht⟩, _, _, rfl, R1, _, _, rfl, R2, rfl⟩, u3, u4, rfl, R3, R4⟩)
theorem vars_q (f : Nat) : ∀ (acc : List Vr) (r : Rd) (a o : Int) (l : List Tk), Gq r a o l → l.length < f → acc.length ≤ 16 → (varsF f acc r).2.code = 0 → ∃ q, (varsF f acc r).1 = acc ++ q ∧ (acc ++ q).length ≤ 16 ∧ (∀ v ∈ q, RVq v) ∧ Took 0 l (seqR (q.map varR)) (varsF f acc r).2 a o := by
  induction f with
  | zero => intro acc r a o l _ h; omega
  | succ f ih =>
    intro acc r a o l h hf ha hc
    rw [varsF] at hc ⊢
    by_cases hi : r.is wVar = true
    · rw [if_pos hi] at hc ⊢
      have c1 : (r.room acc.length 16).take.var.2.code = 0 := code_of (fun e => by rw [bad_vars e]) hc
      have c0 : (r.room acc.length 16).take.code = 0 := code_of (fun e => bad_var e) c1
      have hlt : acc.length < 16 := by
        rcases Nat.lt_or_ge acc.length 16 with h8 | h8
        · exact h8
        · exact absurd c0 (room_badq h (by omega))
      rw [room_ok (by omega)] at hc c1 ⊢
      obtain ⟨u1, l1, rfl, ⟨t, rfl, ht⟩, n1, g1⟩ := h.takeIs hi
      simp only [List.length_append, List.length_singleton] at hf
      obtain ⟨v2, u2, l2, rfl, R2, n2, g2⟩ := g1.var c1
      simp only [List.length_append] at hf
      obtain ⟨q, e3, q1, q2, u3, l3, rfl, R3, n3, g3⟩ := ih (acc ++ [r.take.var.1]) r.take.var.2 a o l2 g2 (by omega) (by simp; omega) hc
      refine ⟨r.take.var.1 :: q, by rw [e3]; simp, by simpa using q1, fun v hv => ?_, (t :: u2) ++ u3, l3, by simp, ⟨t :: u2, u3, rfl, R2 t ht, R3⟩, Nat.zero_le _, g3⟩
      rcases List.mem_cons.1 hv with rfl | hv
      · exact v2
      · exact q2 v hv
    · rw [if_neg hi] at hc ⊢
      exact ⟨[], by simp, by simpa using ha, by simp, [], l, rfl, rfl, Nat.le_refl _, h⟩
/-! ### methods -/
structure RMq (f : Mt) : Prop where
  name : isName f.name = true
  body : RLq f.body
theorem Gq.meth {r : Rd} {a : Int} {l : List Tk} (h : Gq r a 1 l) (hl : l.length ≤ 10000) (hc : r.meth.2.code = 0) : RMq r.meth.1 ∧ RestV l wMethod (mtR' r.meth.1) r.meth.2 a 1 := by
  have c1 : r.name.2.block.2.code = 0 := hc
  have c0 : r.name.2.code = 0 := code_of (fun e => bad_block e) c1
  obtain ⟨m1, u1, l1, rfl, R1, n1, g1⟩ := h.name c0
  simp only [List.length_append] at hl
  obtain ⟨b1, u2, l2, rfl, R2, n2, g2⟩ := g1.block (by decide) (by decide) (by omega) c1
  exact ⟨⟨m1, b1⟩, u1 ++ (u2 ++ []), l2, by simp, fun t ht => ⟨[t], _, rfl, ⟨t, rfl, ht⟩, _, _, rfl, R1, _, _, rfl, R2, rfl⟩, by simp; omega, g2⟩
theorem meths_q (f : Nat) : ∀ (acc : List Mt) (r : Rd) (a : Int) (l : List Tk), Gq r a 1 l → l.length ≤ 10000 → l.length < f → acc.length ≤ 16 → (methsF f acc r).2.code = 0 → ∃ q, (methsF f acc r).1 = acc ++ q ∧ (acc ++ q).length ≤ 16 ∧ (∀ v ∈ q, RMq v) ∧ Took 0 l (seqR (q.map mtR')) (methsF f acc r).2 a 1 := by
  induction f with
  | zero => intro acc r a l _ _ h; omega
  | succ f ih =>
    intro acc r a l h hN hf ha hc
    rw [methsF] at hc ⊢
    by_cases hi : r.is wMethod = true
    · rw [if_pos hi] at hc ⊢
      have c1 : (r.room acc.length 16).take.meth.2.code = 0 := code_of (fun e => by rw [bad_meths e]) hc
      have c0 : (r.room acc.length 16).take.code = 0 := code_of (fun e => bad_meth e) c1
      have hlt : acc.length < 16 := by
        rcases Nat.lt_or_ge acc.length 16 with h8 | h8
        · exact h8
        · exact absurd c0 (room_badq h (by omega))
      rw [room_ok (by omega)] at hc c1 ⊢
      obtain ⟨u1, l1, rfl, ⟨t, rfl, ht⟩, n1, g1⟩ := h.takeIs hi
      simp only [List.length_append, List.length_singleton] at hf hN
      obtain ⟨v2, u2, l2, rfl, R2, n2, g2⟩ := g1.meth (by omega) c1
      simp only [List.length_append] at hf hN
      obtain ⟨q, e3, q1, q2, u3, l3, rfl, R3, n3, g3⟩ := ih (acc ++ [r.take.meth.1]) r.take.meth.2 a l2 g2 (by omega) (by omega) (by simp; omega) hc
      refine ⟨r.take.meth.1 :: q, by rw [e3]; simp, by simpa using q1, fun v hv => ?_, (t :: u2) ++ u3, l3, by simp, ⟨t :: u2, u3, rfl, R2 t ht, R3⟩, Nat.zero_le _, g3⟩
      rcases List.mem_cons.1 hv with rfl | hv
      · exact v2
      · exact q2 v hv
    · rw [if_neg hi] at hc ⊢
      exact ⟨[], by simp, by simpa using ha, by simp, [], l, rfl, rfl, Nat.le_refl _, h⟩
/-! ### monitors -/
structure RMoq (m : Mo) : Prop where
  name : isName m.name = true
  vlen : m.vars.length ≤ 16
  mlen : m.methods.length ≤ 16
  vars : ∀ v ∈ m.vars, RVq v
  meths : ∀ f ∈ m.methods, RMq f
theorem Gq.mon {r : Rd} {a : Int} {l : List Tk} (h : Gq r a 0 l) (hl : l.length ≤ 10000) (hc : r.mon.2.code = 0) : RMoq r.mon.1 ∧ RestV l wMonitor (monR r.mon.1) r.mon.2 a 0 := by
  unfold Rd.mon at hc ⊢
  by_cases hi : r.name.2.is [123] = true
  · rw [if_pos hi] at hc ⊢
    have c3 : r.name.2.enter.monB.2.code = 0 := hc
    have c2 : r.name.2.enter.code = 0 := code_of (fun e => bad_monB e) c3
    have c0 : r.name.2.code = 0 := by
      by_cases e : r.name.2.code = 0
      · exact e
      · exact absurd hi (bad_is e _)
    obtain ⟨m1, u1, l1, rfl, R1, n1, g1⟩ := h.name c0
    simp only [List.length_append] at hl
    obtain ⟨_, u2, l2, rfl, R2, n2, g2⟩ := g1.enter hi c2
    simp only [List.length_append] at hl
    have g2 : Gq r.name.2.enter a 1 l2 := g2
    have c3' : (r.name.2.enter.vars.2.meths.2.must [125]).code = 0 := c3
    have c4 : r.name.2.enter.vars.2.meths.2.code = 0 := code_of (fun e => bad_must e _) c3'
    have c5 : r.name.2.enter.vars.2.code = 0 := code_of (fun e => by
      have : r.name.2.enter.vars.2.meths = ([], r.name.2.enter.vars.2) := bad_meths e _ _
      rw [this]) c4
    obtain ⟨q, e3, v1, v2, u3, l3, rfl, R3, n3, g3⟩ := vars_q (r.name.2.enter.m + 1) [] r.name.2.enter a 1 l2 g2 (by rw [g2.m]; omega) (by decide) c5
    simp only [List.length_append] at hl
    obtain ⟨k, e4, w1, w2, u4, l4, rfl, R4, n4, g4⟩ := meths_q (r.name.2.enter.vars.2.m + 1) [] r.name.2.enter.vars.2 a l3 g3 (by omega) (by rw [show r.name.2.enter.vars.2.m = l3.length from g3.m]; omega) (by decide) c4
    obtain ⟨u5, l5, rfl, R5, n5, g5⟩ := Gq.must (r := r.name.2.enter.vars.2.meths.2) g4 c3'
    have e3 : r.name.2.enter.vars.1 = q := e3
    have e4 : r.name.2.enter.vars.2.meths.1 = k := e4
    have em : r.name.2.enter.monB.1 = (q, k) := by unfold Rd.monB; rw [e3, e4]
    dsimp only
    rw [em]
    refine ⟨⟨m1, by simpa using v1, by simpa using w1, v2, w2⟩, u1 ++ (u2 ++ []) ++ u3 ++ u4 ++ u5, l5, by simp, fun t ht => ?_, by simp; omega, Gq.leave (o := 0) g5⟩
    exact ⟨t :: (u1 ++ (u2 ++ []) ++ u3 ++ u4), u5, rfl, ⟨t :: (u1 ++ (u2 ++ []) ++ u3), u4, rfl, ⟨t :: (u1 ++ (u2 ++ [])), u3, rfl, ⟨[t], _, rfl, ⟨t, rfl, ht⟩, _, _, rfl, R1, _, _, rfl, R2, rfl⟩, R3⟩, R4⟩, R5⟩
  · rw [if_neg hi] at hc
    exfalso
    by_cases e : r.name.2.code = 0
    · obtain ⟨m1, u1, l1, rfl, R1, n1, g1⟩ := h.name e
      have hc' : (r.name.2.fail 40).code = 0 := hc
      rw [g1.fail] at hc'
      exact absurd hc' (by decide)
    · have hc' : (r.name.2.fail 40).code = 0 := hc
      rw [bad_fail e] at hc'
      exact e hc'
/-! ### threads -/
structure RRoq (r : Ro) : Prop where
  name : isName r.name = true
  count : 0 ≤ r.count
  star : r.star = true → r.count = 0
  body : RLq r.body
theorem Gq.cnt {r : Rd} {a o : Int} {l : List Tk} (h : Gq r a o l) (hc : r.cnt.2.code = 0) : 0 ≤ r.cnt.1.2 ∧ (r.cnt.1.1 = true → r.cnt.1.2 = 0) ∧ Took 1 l (if r.cnt.1.1 = true then wR [42] else iR r.cnt.1.2) r.cnt.2 a o := by
  unfold Rd.cnt at hc ⊢
  by_cases hk : r.next.kind = 2
  · rw [if_pos hk] at hc ⊢
    dsimp only
    rw [if_neg (by decide)]
    exact ⟨(h.good.2 hk).1, fun hh => (by cases hh), h.take (by rw [hk]; decide) (fun t ht => ⟨t, rfl, isI_nu.2 ⟨by rw [ht]; exact hk, by rw [ht]⟩⟩)⟩
  · rw [if_neg hk] at hc ⊢
    dsimp only
    rw [if_pos rfl]
    exact ⟨Int.le_refl _, fun _ => rfl, h.must hc⟩
theorem Gq.role {r : Rd} {a : Int} {l : List Tk} (h : Gq r a 0 l) (hl : l.length ≤ 10000) (hc : r.role.2.code = 0) : RRoq r.role.1 ∧ RestV l wThread (roleR r.role.1) r.role.2 a 0 := by
  have c2 : r.name.2.cnt.2.block.2.code = 0 := hc
  have c1 : r.name.2.cnt.2.code = 0 := code_of (fun e => bad_block e) c2
  have c0 : r.name.2.code = 0 := code_of (fun e => bad_cnt e) c1
  obtain ⟨m1, u1, l1, rfl, R1, n1, g1⟩ := h.name c0
  obtain ⟨q1, q2, u2, l2, rfl, R2, n2, g2⟩ := g1.cnt c1
  simp only [List.length_append] at hl
  obtain ⟨b1, u3, l3, rfl, R3, n3, g3⟩ := g2.block (by decide) (by decide) (by omega) c2
  refine ⟨⟨m1, q1, q2, b1⟩, (u1 ++ []) ++ u2 ++ u3, l3, by simp, fun t ht => ?_, by simp; omega, g3⟩
  exact ⟨t :: ((u1 ++ []) ++ u2), u3, rfl, ⟨t :: (u1 ++ []), u2, rfl, ⟨[t], _, rfl, ⟨t, rfl, ht⟩, _, _, rfl, R1, rfl⟩, R2⟩, R3⟩
end Go.Proofs.YtmflfcbebeikcaaGreat.Q
