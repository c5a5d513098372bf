/- Statements' and programs' texts are parsed back. No condition. -/
import Derived.Test.YtmflfcbebeikcaaGreatDoorMQ
import Derived.Test.YtmflfcbebeikcaaGreatDoorMI
import Derived.Test.YtmflfcbebeikcaaGreatDoorMN
import Derived.Test.YtmflfcbebeikcaaGreatDoorML
set_option linter.unusedVariables false
set_option linter.unusedSectionVars false
set_option linter.unnecessarySimpa false
set_option linter.unusedSimpArgs false
set_option maxRecDepth 100000
set_option maxHeartbeats 4000000
namespace Go.Proofs.YtmflfcbebeikcaaGreatDoor.Q
open Go.RowKit
variable [Amb] [Pow]
mutual
def St.er : St → St
  | ⟨kind, mon, name, n, e, blocks, _⟩ => ⟨kind, mon, name, n, e.er, St.erB blocks, 0⟩
def St.erL : List St → List St
  | [] => []
  | a :: r => a.er :: St.erL r
def St.erB : List (List St) → List (List St)
  | [] => []
  | b :: r => St.erL b :: St.erB r
end
theorem St.erL_map : ∀ l : List St, St.erL l = l.map St.er
  | [] => by simp [St.erL]
  | a :: r => by rw [St.erL, St.erL_map r]; rfl
theorem St.erB_map : ∀ l : List (List St), St.erB l = l.map (List.map St.er)
  | [] => by simp [St.erB]
  | b :: r => by rw [St.erB, St.erB_map r, St.erL_map]; rfl
theorem St.er_eq (y : St) : y.er = ⟨y.kind, y.mon, y.name, y.n, y.e.er, y.blocks.map (List.map St.er), 0⟩ := by
  cases y; rw [St.er, St.erB_map]
def Vr.er (v : Vr) : Vr := ⟨v.name, v.type, v.lo, v.hi, v.init, 0⟩
def Mt.er (f : Mt) : Mt := ⟨f.name, f.body.map St.er, 0⟩
def Mo.er (m : Mo) : Mo := ⟨m.name, m.vars.map Vr.er, m.methods.map Mt.er, 0⟩
def Ro.er (r : Ro) : Ro := ⟨r.name, r.star, r.count, r.body.map St.er, 0⟩
def Pg.er (p : Pg) : Pg := ⟨p.mons.map Mo.er, p.roles.map Ro.er⟩
theorem St.cn_pos (y : St) : 0 < y.cn := by cases y; rw [St.cn]; omega
theorem St.cn_kid {y : St} {b : List St} (hb : b ∈ y.blocks) {z : St} (hz : z ∈ b) : z.cn < y.cn := by
  have h1 := St.cnB_mem hb
  have h2 := St.cnL_mem hz
  cases y
  rw [St.cn]
  dsimp only at *
  omega
theorem St.same_iff (N : Nat) : ∀ (a b : St), a.cn ≤ N → (a.same b = true ↔ a.er = b.er) := by
  induction N with
  | zero => intro a b h; have := a.cn_pos; omega
  | succ N ih =>
    intro a b hN
    rw [St.same_eq, St.er_eq, St.er_eq b]
    simp only [Bool.and_eq_true, beq_iff_eq, St.mk.injEq, and_true]
    rw [eqL_iff (f := List.map St.er) fun x hx y hy => eqL_iff (f := St.er) fun u hu v hv => ih u v (by have := a.cn_kid hx hu; omega), Ex.same_er]
    constructor
    · rintro ⟨⟨⟨⟨⟨h1, h2⟩, h3⟩, h4⟩, h5⟩, h6⟩
      exact ⟨h1, h2, h3, h4, h5, h6⟩
    · rintro ⟨h1, h2, h3, h4, h5, h6⟩
      exact ⟨⟨⟨⟨⟨h1, h2⟩, h3⟩, h4⟩, h5⟩, h6⟩
theorem St.same_er (a b : St) : a.same b = true ↔ a.er = b.er := St.same_iff _ a b (Nat.le_refl _)
theorem sts_er (a b : List St) : eqL St.same a b = true ↔ a.map St.er = b.map St.er := eqL_iff fun x _ y _ => St.same_er x y
theorem Vr.same_er (a b : Vr) : a.same b = true ↔ a.er = b.er := by
  unfold Vr.same Vr.er
  simp only [Bool.and_eq_true, beq_iff_eq, Vr.mk.injEq, and_true, and_assoc]
theorem Mt.same_er (a b : Mt) : a.same b = true ↔ a.er = b.er := by
  unfold Mt.same Mt.er
  simp only [Bool.and_eq_true, beq_iff_eq, Mt.mk.injEq, and_true, sts_er]
theorem Mo.same_er (a b : Mo) : a.same b = true ↔ a.er = b.er := by
  unfold Mo.same Mo.er
  simp only [Bool.and_eq_true, beq_iff_eq, Mo.mk.injEq, and_true, and_assoc]
  rw [eqL_iff (f := Vr.er) fun x _ y _ => Vr.same_er x y, eqL_iff (f := Mt.er) fun x _ y _ => Mt.same_er x y]
theorem Ro.same_er (a b : Ro) : a.same b = true ↔ a.er = b.er := by
  unfold Ro.same Ro.er
  simp only [Bool.and_eq_true, beq_iff_eq, Ro.mk.injEq, and_true, and_assoc, sts_er]
theorem Pg.same_er (a b : Pg) : a.same b = true ↔ a.er = b.er := by
  unfold Pg.same Pg.er
  simp only [Bool.and_eq_true, Pg.mk.injEq]
  rw [eqL_iff (f := Mo.er) fun x _ y _ => Mo.same_er x y, eqL_iff (f := Ro.er) fun x _ y _ => Ro.same_er x y]
/-! ### texts do not tell places -/
theorem catS_map {f : St → Str} {g : St → St} : ∀ {l : List St}, (∀ y ∈ l, f (g y) = f y) → catS f (l.map g) = catS f l
  | [], _ => rfl
  | a :: r, h => by rw [List.map_cons, catS, catS, h a (by simp), catS_map fun y hy => h y (List.mem_cons_of_mem _ hy)]
theorem catG_map {α : Type} {f : α → Str} {g : α → α} : ∀ {l : List α}, (∀ y ∈ l, f (g y) = f y) → catG f (l.map g) = catG f l
  | [], _ => rfl
  | a :: r, h => by rw [List.map_cons, catG, catG, h a (by simp), catG_map fun y hy => h y (List.mem_cons_of_mem _ hy)]
theorem catB_map {f : St → Nat → Str} {g : St → St} {word : Str} {o : Nat} : ∀ {l : List (List St)} {i : Nat}, (∀ b ∈ l, ∀ y ∈ b, f (g y) (o + 1) = f y (o + 1)) → catB f word o i (l.map (List.map g)) = catB f word o i l
  | [], _, _ => rfl
  | b :: r, i, h => by
    rw [List.map_cons, catB, catB, catB_map fun c hc => h c (List.mem_cons_of_mem _ hc)]
    unfold blockT
    rw [catS_map (h b (by simp))]
theorem exT_er (e : Ex) : exT e.er = exT e := by unfold exT; rw [er_op, pr_er]
theorem tx_er (N : Nat) : ∀ (y : St) (o : Nat), y.cn ≤ N → y.er.tx o = y.tx o := by
  induction N with
  | zero => intro a b h; have := a.cn_pos; omega
  | succ N ih =>
    intro y o hN
    have hk : ∀ b ∈ y.blocks, ∀ z ∈ b, z.er.tx (o + 1) = z.tx (o + 1) := fun b hb z hz => ih z (o + 1) (by have := y.cn_kid hb hz; omega)
    rw [St.er_eq]
    obtain ⟨kind, mon, name, n, e, blocks, pl⟩ := y
    dsimp only at *
    rw [St.tx, St.tx, St.txB_cat, St.txB_cat, catB_map hk]
    unfold stK
    rw [exT_er, pr_er]
theorem St.tx_er (y : St) (o : Nat) : y.er.tx o = y.tx o := Q.tx_er _ y o (Nat.le_refl _)
theorem blockT_er (l : List St) (o : Nat) : blockT St.tx (l.map St.er) o = blockT St.tx l o := by
  unfold blockT
  rw [catS_map fun y _ => St.tx_er y (o + 1)]
theorem vrT_er (v : Vr) (o : Nat) : vrT v.er o = vrT v o := rfl
theorem mtT_er (f : Mt) (o : Nat) : mtT f.er o = mtT f o := by unfold mtT Mt.er; rw [blockT_er]
theorem moT_er (m : Mo) (o : Nat) : moT m.er o = moT m o := by
  unfold moT Mo.er moH
  dsimp only
  rw [catG_map fun v _ => vrT_er v (o + 1), catG_map fun f _ => mtT_er f (o + 1)]
theorem roT_er (r : Ro) (o : Nat) : roT r.er o = roT r o := by unfold roT Ro.er; rw [blockT_er]
theorem textS_er (p : Pg) : textS p.er = textS p := by
  unfold textS Pg.er
  rw [catG_map fun m _ => moT_er m 0, catG_map fun r _ => roT_er r 0]
/-! ### a statement's head -/
structure HeadIs (kind : Int) (mn nm : Str) (n : Int) (e : Ex) (len : Nat) : Prop where
  k : 1 ≤ kind ∧ kind ≤ 11
  n0 : 0 ≤ n
  n9 : kind ≠ 9 → n = 0
  mon : kind = 2 ∨ 7 ≤ kind → isName mn = true
  mon' : ¬ (kind = 2 ∨ 7 ≤ kind) → mn = []
  name : kind = 2 ∨ kind = 8 → isName nm = true
  name' : ¬ (kind = 2 ∨ kind = 8) → nm = []
  ex : kind = 2 ∨ kind = 3 ∨ kind = 4 → checkS e = 0
  ex' : ¬ (kind = 2 ∨ kind = 3 ∨ kind = 4) → e.op = 0 ∧ e.mon = [] ∧ e.name = [] ∧ e.n = 0 ∧ e.kids = []
  len0 : kind ≤ 2 ∨ 8 ≤ kind → len = 0
  len3 : kind = 3 → len = 1 ∨ len = 2
  len1 : kind = 4 ∨ kind = 5 ∨ kind = 7 → len = 1
  len6 : kind = 6 → 1 ≤ len ∧ len ≤ 8
theorem none_is {e : Ex} (h : isNoneS e = true) : e.op = 0 ∧ e.mon = [] ∧ e.name = [] ∧ e.n = 0 ∧ e.kids = [] := by
  unfold isNoneS at h
  simp only [Bool.and_eq_true, beq_iff_eq] at h
  exact ⟨h.1.1.1.1, h.1.1.1.2, h.1.1.2, h.1.2, List.eq_nil_of_length_eq_zero (by have := h.2; omega)⟩
theorem head_raw {kind : Int} {mon name : Str} {n : Int} {e : Ex} {len : Nat} (h : headOk kind mon name n e len = true) : isKind kind = true ∧ (formS kind).fewest ≤ (len : Int) ∧ (len : Int) ≤ (formS kind).most ∧ isNameW mon (formS kind).mon = true ∧ isNameW name (formS kind).name = true ∧ 0 ≤ n ∧ ((formS kind).num = false → n = 0) ∧ ((formS kind).ex = true → checkS e = 0) ∧ ((formS kind).ex = false → isNoneS e = true) := by
  unfold headOk at h
  split at h
  · cases h
  split at h
  · cases h
  split at h
  · cases h
  split at h
  · cases h
  split at h
  · cases h
  split at h
  · cases h
  split at h
  · cases h
  rename_i h1 h2 h3 h4 h5 h6 h7
  refine ⟨by simpa using h1, by omega, by omega, by simpa using h4, by simpa using h5, by omega, fun hf => ?_, fun he => ?_, fun he => ?_⟩
  · exact Classical.byContradiction fun hn => h7 ⟨hf, hn⟩
  · rw [if_pos he] at h; simpa using h
  · rw [if_neg (by rw [he]; simp)] at h; exact h
theorem nmW {s : Str} : isNameW s true = true ↔ isName s = true := by unfold isNameW; simp
theorem nmW' {s : Str} : isNameW s false = true ↔ s = [] := by unfold isNameW; simp
theorem head_is {kind : Int} {mon name : Str} {n : Int} {e : Ex} {len : Nat} (h : headOk kind mon name n e len = true) : HeadIs kind mon name n e len := by
  obtain ⟨h1, h2, h3, h4, h5, h6, h7, h8, h9⟩ := head_raw h
  have hk : kind = 1 ∨ kind = 2 ∨ kind = 3 ∨ kind = 4 ∨ kind = 5 ∨ kind = 6 ∨ kind = 7 ∨ kind = 8 ∨ kind = 9 ∨ kind = 10 ∨ kind = 11 := by
    unfold isKind at h1
    simp only [Bool.and_eq_true, decide_eq_true_eq] at h1
    omega
  have form : ∀ f : Fo, formS kind = f → f.fewest ≤ (len : Int) ∧ (len : Int) ≤ f.most ∧ isNameW mon f.mon = true ∧ isNameW name f.name = true ∧ 0 ≤ n ∧ (f.num = false → n = 0) ∧ (f.ex = true → checkS e = 0) ∧ (f.ex = false → isNoneS e = true) := fun f hf => hf ▸ ⟨h2, h3, h4, h5, h6, h7, h8, h9⟩
  clear h h1 h2 h3 h4 h5 h7 h8 h9
  rcases hk with rfl | rfl | rfl | rfl | rfl | rfl | rfl | rfl | rfl | rfl | rfl
  · obtain ⟨g1, g2, g3, g4, g5, g6, g7, g8⟩ := form fo0 rfl
    dsimp only [fo0] at *
    rw [nmW'] at g3 g4
    have g8 := none_is (g8 rfl)
    have g6 := g6 rfl
    constructor <;> intros <;> first | omega | assumption | exact g8
  · obtain ⟨g1, g2, g3, g4, g5, g6, g7, g8⟩ := form ⟨true, true, false, true, 0, 0⟩ rfl
    dsimp only at *
    rw [nmW] at g3 g4
    have g7 := g7 rfl
    have g6 := g6 rfl
    constructor <;> intros <;> first | omega | assumption
  · obtain ⟨g1, g2, g3, g4, g5, g6, g7, g8⟩ := form ⟨false, false, false, true, 1, 2⟩ rfl
    dsimp only at *
    rw [nmW'] at g3 g4
    have g7 := g7 rfl
    have g6 := g6 rfl
    constructor <;> intros <;> first | omega | assumption
  · obtain ⟨g1, g2, g3, g4, g5, g6, g7, g8⟩ := form ⟨false, false, false, true, 1, 1⟩ rfl
    dsimp only at *
    rw [nmW'] at g3 g4
    have g7 := g7 rfl
    have g6 := g6 rfl
    constructor <;> intros <;> first | omega | assumption
  · obtain ⟨g1, g2, g3, g4, g5, g6, g7, g8⟩ := form ⟨false, false, false, false, 1, 1⟩ rfl
    dsimp only at *
    rw [nmW'] at g3 g4
    have g8 := none_is (g8 rfl)
    have g6 := g6 rfl
    constructor <;> intros <;> first | omega | assumption | exact g8
  · obtain ⟨g1, g2, g3, g4, g5, g6, g7, g8⟩ := form ⟨false, false, false, false, 1, 8⟩ rfl
    dsimp only at *
    rw [nmW'] at g3 g4
    have g8 := none_is (g8 rfl)
    have g6 := g6 rfl
    constructor <;> intros <;> first | omega | assumption | exact g8
  · obtain ⟨g1, g2, g3, g4, g5, g6, g7, g8⟩ := form ⟨true, false, false, false, 1, 1⟩ rfl
    dsimp only at *
    rw [nmW] at g3
    rw [nmW'] at g4
    have g8 := none_is (g8 rfl)
    have g6 := g6 rfl
    constructor <;> intros <;> first | omega | assumption | exact g8
  · obtain ⟨g1, g2, g3, g4, g5, g6, g7, g8⟩ := form ⟨true, true, false, false, 0, 0⟩ rfl
    dsimp only at *
    rw [nmW] at g3 g4
    have g8 := none_is (g8 rfl)
    have g6 := g6 rfl
    constructor <;> intros <;> first | omega | assumption | exact g8
  · obtain ⟨g1, g2, g3, g4, g5, g6, g7, g8⟩ := form ⟨true, false, true, false, 0, 0⟩ rfl
    dsimp only at *
    rw [nmW] at g3
    rw [nmW'] at g4
    have g8 := none_is (g8 rfl)
    constructor <;> intros <;> first | omega | assumption | exact g8
  · obtain ⟨g1, g2, g3, g4, g5, g6, g7, g8⟩ := form ⟨true, false, false, false, 0, 0⟩ rfl
    dsimp only at *
    rw [nmW] at g3
    rw [nmW'] at g4
    have g8 := none_is (g8 rfl)
    have g6 := g6 rfl
    constructor <;> intros <;> first | omega | assumption | exact g8
  · obtain ⟨g1, g2, g3, g4, g5, g6, g7, g8⟩ := form ⟨true, false, false, false, 0, 0⟩ rfl
    dsimp only at *
    rw [nmW] at g3
    rw [nmW'] at g4
    have g8 := none_is (g8 rfl)
    have g6 := g6 rfl
    constructor <;> intros <;> first | omega | assumption | exact g8
/-- A statement that is right, its numbers those of a machine. -/
inductive StK : St → Prop
  | mk {kind : Int} {mon name : Str} {n : Int} {e : Ex} {blocks : List (List St)} {pl : Int} (hk : HeadIs kind mon name n e blocks.length) (hn : R64 n) (he : ∀ y ∈ e.pre, R64 y.n) (k : ∀ b ∈ blocks, ∀ y ∈ b, StK y) : StK ⟨kind, mon, name, n, e, blocks, pl⟩
/-! ### depths -/
theorem nsB_le : ∀ {l : List (List St)} {o n : Int}, St.nsB l o n ≤ 64 → n ≤ 64 ∧ ∀ b ∈ l, St.nsL b (o + 1) (o + 1) ≤ 64
  | [], o, n, h => by rw [St.nsB] at h; exact ⟨h, by simp⟩
  | b :: r, o, n, h => by
    rw [St.nsB] at h
    obtain ⟨h1, h2⟩ := nsB_le h
    refine ⟨by omega, fun c hc => ?_⟩
    rcases List.mem_cons.1 hc with rfl | hc
    · omega
    · exact h2 c hc
theorem nsS_le {y : St} {o n : Int} (h : y.nsS o n ≤ 64) : n ≤ 64 ∧ (y.e.op ≠ 0 → o + y.e.ns 1 ≤ 64) ∧ ∀ b ∈ y.blocks, St.nsL b (o + 1) (o + 1) ≤ 64 := by
  cases y with
  | mk kind mon name m e blocks pl =>
    rw [St.nsS] at h
    obtain ⟨h1, h2⟩ := nsB_le h
    by_cases h0 : e.op = 0
    · rw [if_pos h0] at h1
      exact ⟨h1, fun hn => absurd h0 hn, h2⟩
    · rw [if_neg h0] at h1
      exact ⟨by omega, fun _ => by show o + e.ns 1 ≤ 64; omega, h2⟩
theorem nsL_le : ∀ {l : List St} {o n : Int}, St.nsL l o n ≤ 64 → n ≤ 64 ∧ ∀ y ∈ l, ∃ n', y.nsS o n' ≤ 64
  | [], o, n, h => by rw [St.nsL] at h; exact ⟨h, by simp⟩
  | a :: r, o, n, h => by
    rw [St.nsL] at h
    obtain ⟨h1, h2⟩ := nsL_le h
    refine ⟨(nsS_le h1).1, fun y hy => ?_⟩
    rcases List.mem_cons.1 hy with rfl | hy
    · exact ⟨n, h1⟩
    · exact h2 y hy
end Go.Proofs.YtmflfcbebeikcaaGreatDoor.Q

namespace Go.Proofs.YtmflfcbebeikcaaGreatDoor.Q
open Go.RowKit
variable [Amb] [Pow]
/-! ### pieces -/
def Tk.wd (t : Tk) (s : Str) : Prop := t.kind = 3 ∧ t.text = s
theorem Tk.wd.sg {t : Tk} {s : Str} (h : t.wd s) : t.sg s := ⟨.inl h.1, h.2⟩
theorem put_wd {s : Str} (hs : isTok 3 s 0) {rest : Str} {a : Nat} {us : List Tk} (hf : endOk rest) (g : Lx rest (a + s.length) us) : ∃ t : Tk, t.wd s ∧ Lx (s ++ rest) a (t :: us) :=
  ⟨⟨3, s, 0, a⟩, ⟨rfl, rfl⟩, Lx.put hs (fun b hb => ⟨fun _ => (hf b hb).1, fun h => by omega, fun h => by omega⟩) g⟩
theorem put_sg2 {s : Str} (hs : isTok 4 s 0) (h2 : s.length ≠ 1) {rest : Str} {a : Nat} {us : List Tk} (g : Lx rest (a + s.length) us) : ∃ t : Tk, t.sg s ∧ Lx (s ++ rest) a (t :: us) :=
  ⟨⟨4, s, 0, a⟩, ⟨.inr rfl, rfl⟩, Lx.put hs (fun b hb => ⟨fun h => by omega, fun h => by omega, fun _ hx hm => absurd hx h2⟩) g⟩
theorem bl10 : classS ((10 : UInt8).toNat : Int) = 1 := by kernel_rfl
theorem nt10 : noTwo 10 := by unfold noTwo; decide
theorem end10 (r : Str) : endOk (10 :: r) := endOk_cons (by decide +kernel)
theorem end59 (r : Str) : endOk (59 :: r) := endOk_cons (by decide +kernel)
theorem Lx.ind {w : Str} {us : List Tk} : ∀ (o a : Nat), Lx w (a + 2 * o) us → Lx (ind o ++ w) a us
  | 0, a, h => by simpa [Q.ind] using h
  | k + 1, a, h => by
    rw [Q.ind, List.append_assoc]
    refine Lx.ind k a ?_
    refine .blank bl32 (.blank bl32 (len_eq h (by omega)))
theorem tk_lbr : isTok 4 [123] 0 := ⟨by decide, by kernel_rfl⟩
theorem tk_rbr : isTok 4 [125] 0 := ⟨by decide, by kernel_rfl⟩
theorem tk_semi : isTok 4 [59] 0 := ⟨by decide, by kernel_rfl⟩
theorem tk_eq : isTok 4 [61] 0 := ⟨by decide, by kernel_rfl⟩
theorem tk_col : isTok 4 [58] 0 := ⟨by decide, by kernel_rfl⟩
theorem tk_dots : isTok 4 [46, 46] 0 := ⟨by decide, by kernel_rfl⟩
/-- A word of a statement. -/
theorem kw_tok : ∀ w ∈ kindT, isTok 3 w 0 := by
  intro w hw
  simp only [kindT, List.mem_cons, List.not_mem_nil, or_false] at hw
  rcases hw with rfl | rfl | rfl | rfl | rfl | rfl | rfl | rfl | rfl | rfl <;> exact ⟨by decide, by kernel_rfl⟩
theorem tk_else : isTok 3 [101, 108, 115, 101] 0 := ⟨by decide, by kernel_rfl⟩
theorem tk_or : isTok 3 [111, 114] 0 := ⟨by decide, by kernel_rfl⟩
/-- An expression's text. -/
theorem expr_piece (e : Ex) (he : PrOk e) {a : Nat} {rest : Str} {us : List Tk} (hr : endOk rest) (g : Lx rest (a + (e.pr 1).length) us) :
    ∃ ts, Lx (e.pr 1 ++ rest) a (ts ++ us) ∧ ∀ (a' o : Int) (vs : List Tk), 0 ≤ o → o + e.ns 1 ≤ 64 → vs ≠ [] → nop 0 vs → Tl (ts ++ vs) → ∃ e' : Ex, e'.er = e.er ∧ (rd a' o (ts ++ vs)).expr = (e', rd a' o vs) := by
  have h := spell _ e (Nat.le_refl _) he 1 (by decide) (by decide)
  have hb := ns_bound _ e (Nat.le_refl _) he
  have hn : 0 ≤ e.ns 1 := by unfold Ex.ns atN; split <;> dsimp only <;> omega
  obtain ⟨ts, h1, h2⟩ := h.app (a := a) hr g
  refine ⟨ts, h2, fun a' o vs h0 hd hv hnop hl => ?_⟩
  exact (h1.expr a' h0 (by omega) hv hl hnop).1 (by show o + ((e.ns (1 : Nat)).toNat : Int) ≤ 64; show o + ((e.ns 1).toNat : Int) ≤ 64; omega)
/-- Nothing that goes on with a statement is next. -/
def noEl (l : List Tk) : Prop := ∀ t ∈ l.head?, ¬ t.sg [101, 108, 115, 101] ∧ ¬ t.sg [111, 114]
/-- A statement's first token. -/
def hdS (t : Tk) : Prop := t.kind = 1 ∨ (t.kind = 3 ∧ kindOf t.text ≠ 0)
theorem hdS.no {t : Tk} (h : hdS t) {s : Str} (hs : kindOf s = 0) : ¬ t.sg s := fun k => by
  rcases h with h | ⟨_, h⟩
  · have := k.1; omega
  · rw [k.2] at h; exact h hs
theorem kind_no : kindOf [101, 108, 115, 101] = 0 ∧ kindOf [111, 114] = 0 ∧ kindOf [125] = 0 := ⟨by kernel_rfl, by kernel_rfl, by kernel_rfl⟩
theorem noEl_hd {t : Tk} {l : List Tk} (h : hdS t) : noEl (t :: l) := fun u hu => by
  simp at hu; subst hu
  exact ⟨h.no kind_no.1, h.no kind_no.2.1⟩
theorem noEl_sg {t : Tk} {s : Str} {l : List Tk} (h : t.sg s) (h1 : s ≠ [101, 108, 115, 101]) (h2 : s ≠ [111, 114]) : noEl (t :: l) := fun u hu => by
  simp at hu; subst hu
  exact ⟨fun k => h1 (h.2.symm.trans k.2), fun k => h2 (h.2.symm.trans k.2)⟩
theorem noEl_kind {t : Tk} {l : List Tk} (h3 : t.kind ≠ 3) (h4 : t.kind ≠ 4) : noEl (t :: l) := fun u hu => by
  simp at hu; subst hu
  exact ⟨fun k => by have := k.1; omega, fun k => by have := k.1; omega⟩
/-! ### the goals -/
def SB (y : St) (o : Nat) : Prop := ∀ (a : Nat) (rest : Str) (us : List Tk), Lx rest (a + (y.tx o).length) us → ∃ t ts, Lx (y.tx o ++ rest) a (t :: ts ++ us) ∧ hdS t ∧
  ∀ (a' : Int) (vs : List Tk), vs ≠ [] → noEl vs → Tl (t :: ts ++ vs) → ∃ y' : St, y'.er = y.er ∧ (rd a' o (t :: ts ++ vs)).stmt = (y', rd a' o vs)
def LB (l : List St) (o : Nat) : Prop := ∀ (a : Nat) (rest : Str) (us : List Tk), Lx rest (a + (St.txL l o).length) us → ∃ ts, Lx (St.txL l o ++ rest) a (ts ++ us) ∧ (∀ t ∈ ts.head?, hdS t) ∧
  ∀ (a' : Int) (acc : List St) (vs : List Tk), vs ≠ [] → noEl vs → Tl (ts ++ vs) → ∃ l' : List St, l'.map St.er = l.map St.er ∧ (rd a' o (ts ++ vs)).stmts acc = (rd a' o vs).stmts (acc ++ l')
def blkX (b : List St) (o : Nat) : Str := [32, 123, 10] ++ (St.txL b (o + 1) ++ (ind o ++ [125]))
def BB (b : List St) (o : Nat) : Prop := ∀ (a : Nat) (rest : Str) (us : List Tk), Lx rest (a + (blkX b o).length) us → ∃ t ts, Lx (blkX b o ++ rest) a (t :: ts ++ us) ∧ t.sg [123] ∧
  ∀ (a' : Int) (vs : List Tk), vs ≠ [] → Tl (t :: ts ++ vs) → ∃ b' : List St, b'.map St.er = b.map St.er ∧ (rd a' o (t :: ts ++ vs)).block = (b', rd a' o vs)
theorem LB.nil (o : Nat) : LB [] o := fun a rest us g => ⟨[], by simpa [St.txL] using g, by simp, fun a' acc vs _ _ _ => ⟨[], rfl, by simp⟩⟩
theorem LB.cons {y : St} {r : List St} {o : Nat} (ho : o ≤ 64) (h1 : SB y o) (h2 : LB r o) : LB (y :: r) o := by
  intro a rest us g
  rw [St.txL] at g ⊢
  obtain ⟨ts2, k1, k2, k3⟩ := h2 (a + (y.tx o).length) rest us (len_eq g (by rw [List.length_append]; omega))
  obtain ⟨t, ts1, m1, m2, m3⟩ := h1 a (St.txL r o ++ rest) (ts2 ++ us) k1
  refine ⟨t :: ts1 ++ ts2, by simpa [List.append_assoc] using m1, fun u hu => by simp at hu; subst hu; exact m2, fun a' acc vs hv hn hl => ?_⟩
  rw [List.append_assoc] at hl ⊢
  have hne : ts2 ++ vs ≠ [] := by simp [hv]
  have hn2 : noEl (ts2 ++ vs) := by
    cases ts2 with
    | nil => exact hn
    | cons u q => exact noEl_hd (k2 u rfl)
  obtain ⟨y', e1, e2⟩ := m3 a' (ts2 ++ vs) hne hn2 hl
  obtain ⟨l', f1, f2⟩ := k3 a' (acc ++ [y']) vs hv hn (hl.drop hne)
  refine ⟨y' :: l', by rw [List.map_cons, List.map_cons, e1, f1], ?_⟩
  have hok := hl.ok (a := a') (o := (o : Int)) (by omega) (by omega)
  rw [Rd.stmts_eq hok, if_pos ⟨rfl, fun hi => m2.no kind_no.2.2 ((rd_is a' o t _ _).1 hi)⟩, e2]
  dsimp only
  rw [f2]; simp
theorem LB.all {o : Nat} (ho : o ≤ 64) : ∀ {l : List St}, (∀ y ∈ l, SB y o) → LB l o
  | [], _ => LB.nil o
  | y :: r, h => LB.cons ho (h y (by simp)) (LB.all ho fun z hz => h z (List.mem_cons_of_mem _ hz))
theorem stmts_end {a o : Int} {u : Tk} {l : List Tk} (hl : Tl (u :: l)) (h0 : 0 ≤ o) (h1 : o ≤ 64) (hu : u.sg [125]) (acc : List St) : (rd a o (u :: l)).stmts acc = (acc, rd a o (u :: l)) := by
  rw [Rd.stmts_eq (hl.ok h0 h1), if_neg fun h => h.2 ((rd_is a o u l _).2 hu)]
theorem LB.block {b : List St} {o : Nat} (ho : o + 1 ≤ 64) (h : LB b (o + 1)) : BB b o := by
  intro a rest us g
  unfold blkX at g ⊢
  obtain ⟨u, u1, u2⟩ := put_sg' tk_rbr (no_two_of (by decide) (by decide)) (a := a + 3 + (St.txL b (o + 1)).length + 2 * o) (rest := rest) (us := us) (len_eq g (by simp [ind_len]; omega))
  have u3 := Lx.ind o (a + 3 + (St.txL b (o + 1)).length) u2
  obtain ⟨ts, k1, k2, k3⟩ := h (a + 3) (ind o ++ ([125] ++ rest)) (u :: us) u3
  have k4 := Lx.blank (a := a + 2) bl10 k1
  obtain ⟨t, t1, t2⟩ := put_sg' tk_lbr (no_two_of (by decide) (by decide)) (a := a + 1) k4
  have t3 := Lx.blank (a := a) bl32 t2
  refine ⟨t, ts ++ [u], by simpa [List.append_assoc] using t3, t1, fun a' vs hv hl => ?_⟩
  have el : t :: (ts ++ [u]) ++ vs = t :: (ts ++ (u :: vs)) := by simp
  rw [el] at hl ⊢
  have hne : ts ++ u :: vs ≠ [] := by simp
  have hl1 := hl.tail hne
  have hl2 := hl1.drop (ts := ts) (by simp)
  obtain ⟨l', e1, e2⟩ := k3 a' [] (u :: vs) (by simp) (noEl_sg u1 (by decide) (by decide)) hl1
  refine ⟨l', e1, ?_⟩
  rw [Rd.block_eq (hl.ok (by omega) (by omega)), if_pos ((rd_is a' o t _ _).2 t1), rd_enter a' t hne (by omega)]
  have e2' : (rd a' ((o : Int) + 1) (ts ++ u :: vs)).stmts [] = (rd a' ((o : Int) + 1) (u :: vs)).stmts ([] ++ l') := e2
  rw [e2', stmts_end hl2 (by omega) (by omega) u1, rd_must a' _ hv u1, rd_leave]
  rfl
/-! ### blocks behind a head -/
/-- Blocks that begin with a word. -/
def orX (l : List (List St)) (w : Str) (o : Nat) : Str := St.txB l w o 1
theorem txB_one (b : List St) (w : Str) (o : Nat) (l : List (List St)) : St.txB (b :: l) w o 0 = blkX b o ++ orX l w o := by rw [St.txB]; rfl
theorem txB_more (w : Str) (o : Nat) : ∀ (l : List (List St)) (i : Nat), St.txB l w o (i + 1) = orX l w o
  | [], i => by unfold orX; rw [St.txB, St.txB]
  | b :: r, i => by
    unfold orX
    rw [St.txB, St.txB, txB_more w o r (i + 1), txB_more w o r 1]
    rfl
theorem orX_cons (b : List St) (w : Str) (o : Nat) (l : List (List St)) : orX (b :: l) w o = ([32] ++ w) ++ (blkX b o ++ orX l w o) := by
  unfold orX
  rw [St.txB, txB_more w o l 1, List.append_assoc]
  rfl
/-- The branches behind the first one. -/
theorem ors_back {o : Nat} (ho : o ≤ 64) : ∀ (l : List (List St)), (∀ b ∈ l, BB b o) → ∀ (a : Nat) (rest : Str) (us : List Tk), Lx rest (a + (orX l [111, 114] o).length) us → ∃ ts, Lx (orX l [111, 114] o ++ rest) a (ts ++ us) ∧
    ∀ (a' : Int) (acc : List (List St)) (vs : List Tk), acc.length + l.length ≤ 8 → vs ≠ [] → noEl vs → Tl (ts ++ vs) → ∃ l' : List (List St), l'.map (List.map St.er) = l.map (List.map St.er) ∧ (rd a' o (ts ++ vs)).ors acc = (acc ++ l', rd a' o vs)
  | [], _, a, rest, us, g => ⟨[], by unfold orX at g ⊢; rw [St.txB] at g ⊢; simpa using g, fun a' acc vs _ hv hn hl => ⟨[], rfl, by
      rw [List.nil_append] at hl ⊢
      rw [Rd.ors_eq (hl.ok (by omega) (by omega)), if_neg, List.append_nil]
      intro hi
      cases vs with
      | nil => exact hv rfl
      | cons v q => exact (hn v rfl).2 ((rd_is a' o v q _).1 hi)⟩⟩
  | b :: r, h, a, rest, us, g => by
    rw [orX_cons] at g ⊢
    obtain ⟨ts2, k1, k2⟩ := ors_back ho r (fun c hc => h c (List.mem_cons_of_mem _ hc)) (a + 3 + (blkX b o).length) rest us (len_eq g (by simp; omega))
    obtain ⟨t, ts1, m1, m2, m3⟩ := h b (by simp) (a + 3) (orX r [111, 114] o ++ rest) (ts2 ++ us) k1
    obtain ⟨w, w1, w2⟩ := put_wd tk_or (a := a + 1) (end32 _) m1
    have w3 := Lx.blank (a := a) bl32 w2
    refine ⟨w :: (t :: ts1 ++ ts2), by simp only [List.append_assoc, List.cons_append, List.nil_append]; exact w3, fun a' acc vs hacc hv hn hl => ?_⟩
    have el : w :: (t :: ts1 ++ ts2) ++ vs = w :: (t :: ts1 ++ (ts2 ++ vs)) := by simp
    rw [el] at hl ⊢
    have hne : ts2 ++ vs ≠ [] := by simp [hv]
    have hl1 := hl.tail (by simp)
    have hl2 := hl1.drop hne
    obtain ⟨b', e1, e2⟩ := m3 a' (ts2 ++ vs) hne hl1
    have hac : acc.length + (r.length + 1) ≤ 8 := hacc
    obtain ⟨l', f1, f2⟩ := k2 a' (acc ++ [b']) vs (by simp; omega) hv hn hl2
    refine ⟨b' :: l', by rw [List.map_cons, List.map_cons, e1, f1], ?_⟩
    have hroom : (rd a' o (w :: (t :: ts1 ++ (ts2 ++ vs)))).room (acc.length : Int) 8 = rd a' o (w :: (t :: ts1 ++ (ts2 ++ vs))) := by
      unfold Rd.room
      rw [if_neg (by omega)]
    rw [Rd.ors_eq (hl.ok (by omega) (by omega)), if_pos ((rd_is a' o w _ _).2 w1.sg), hroom, rd_take a' o w (by simp), e2]
    dsimp only
    rw [f2]; simp
theorem stmt_wd {a o : Int} {t : Tk} {l : List Tk} {w : Str} {k : Int} (hl : Tl (t :: l)) (h0 : 0 ≤ o) (h1 : o ≤ 64) (ht : t.wd w) (hne : l ≠ []) (hk : kindOf w = k) (hk0 : k ≠ 0) :
    (rd a o (t :: l)).stmt = if 3 ≤ k ∧ k ≤ 7 then (rd a o l).comp k t.pl else (rd a o l).simple k t.pl := by
  rw [Rd.stmt_eq (hl.ok h0 h1), rd_next, ht.2, hk, if_neg (by rw [ht.1]; decide), if_neg (by rintro (h | h); exact h ht.1; exact hk0 h), rd_take a o t hne]
theorem hd_wd {t : Tk} {w : Str} {k : Int} (h : t.wd w) (hk : kindOf w = k) (hk0 : k ≠ 0) : hdS t := .inr ⟨h.1, by rw [h.2, hk]; exact hk0⟩
theorem er_none {e : Ex} (h : e.op = 0 ∧ e.mon = [] ∧ e.name = [] ∧ e.n = 0 ∧ e.kids = []) : ex0.er = e.er := by
  obtain ⟨h1, h2, h3, h4, h5⟩ := h
  rw [Ex.er_eq, Ex.er_eq e, h1, h2, h3, h4, h5]
  rfl
theorem st_er {kind n pl pl' : Int} {mon name : Str} {e e' : Ex} {bs bs' : List (List St)} (he : e'.er = e.er) (hb : bs'.map (List.map St.er) = bs.map (List.map St.er)) : (St.mk kind mon name n e' bs' pl').er = (St.mk kind mon name n e bs pl).er := by
  rw [St.er_eq, St.er_eq]
  dsimp only
  rw [he, hb]
/-- A statement with one block behind its head. -/
theorem comp_one {a o : Int} {l vs : List Tk} {k pl : Int} {m : Str} {e : Ex} {r : Rd} {b : List St} (hok : (rd a o l).ok) (hk : k ≠ 6) (hh : (rd a o l).head k = ((m, e), r)) (hb : r.block = (b, rd a o vs)) (hn : k = 3 → noEl vs) (hv : vs ≠ []) :
    (rd a o l).comp k pl = (⟨k, m, [], 0, e, [b], pl⟩, rd a o vs) := by
  rw [Rd.comp_eq hok, hh]
  dsimp only
  rw [hb]
  dsimp only
  by_cases h3 : k = 3
  · rw [if_pos h3, if_neg]
    intro hi
    cases vs with
    | nil => exact hv rfl
    | cons v q => exact (hn h3 v rfl).1 ((rd_is a o v q _).1 hi)
  · rw [if_neg h3, if_neg hk]
theorem prok_of {kind : Int} {mon name : Str} {n : Int} {e : Ex} {len : Nat} (h : HeadIs kind mon name n e len) (he : ∀ y ∈ e.pre, R64 y.n) (hk : kind = 2 ∨ kind = 3 ∨ kind = 4) : PrOk e := checkS_ok (h.ex hk) he
theorem len_two {α : Type} {l : List α} (h : l.length = 2) : ∃ a b, l = [a, b] := by
  match l, h with
  | [a, b], _ => exact ⟨a, b, rfl⟩
theorem stmt_back (N : Nat) : ∀ (y : St) (o : Nat) (n : Int), y.cn ≤ N → StK y → y.nsS o n ≤ 64 → o ≤ 64 → SB y o := by
  induction N with
  | zero => intro y o n h; have := y.cn_pos; omega
  | succ N ih =>
    intro y o n0 hN hK hns ho
    obtain ⟨_, hex, hbl⟩ := nsS_le hns
    have hBB : ∀ b ∈ y.blocks, (∀ z ∈ b, StK z) → BB b o := fun b hb hz => by
      obtain ⟨g1, g2⟩ := nsL_le (hbl b hb)
      refine LB.block (by omega) (LB.all (by omega) fun z hzb => ?_)
      obtain ⟨n', hn'⟩ := g2 z hzb
      exact ih z (o + 1) n' (by have := y.cn_kid hb hzb; omega) (hz z hzb) hn' (by omega)
    cases hK with
    | @mk kind mon name n e blocks pl hk hn he hkids =>
    dsimp only at hex hbl hBB
    have hB : ∀ b ∈ blocks, BB b o := fun b hb => hBB b hb (hkids b hb)
    clear hBB hbl hns ih hkids
    have hkk : kind = 1 ∨ kind = 2 ∨ kind = 3 ∨ kind = 4 ∨ kind = 5 ∨ kind = 6 ∨ kind = 7 ∨ kind = 8 ∨ kind = 9 ∨ kind = 10 ∨ kind = 11 := by have := hk.k; omega
    intro a rest us g
    have o0 : (0 : Int) ≤ (o : Int) := by omega
    have o1 : (o : Int) ≤ 64 := by omega
    rcases hkk with rfl | rfl | rfl | rfl | rfl | rfl | rfl | rfl | rfl | rfl | rfl
    · -- skip
      obtain rfl := hk.mon' (by decide)
      obtain rfl := hk.name' (by decide)
      obtain rfl := hk.n9 (by decide)
      have hb0 : blocks = [] := List.eq_nil_of_length_eq_zero (hk.len0 (by decide))
      subst hb0
      have e1 : (St.mk 1 [] [] 0 e [] pl).tx o = ind o ++ ([115, 107, 105, 112] ++ ([59] ++ [10])) := by rw [St.tx]; rfl
      rw [e1] at g ⊢
      have u0 := Lx.blank (a := a + 2 * o + 5) bl10 (len_eq g (by simp [ind_len]; omega))
      obtain ⟨u, u1, u2⟩ := put_sg' tk_semi (no_two_of (by decide) (by decide)) (a := a + 2 * o + 4) u0
      obtain ⟨t, t1, t2⟩ := put_wd (kw_tok [115, 107, 105, 112] (by decide)) (a := a + 2 * o) (end59 _) u2
      have t3 := Lx.ind o a t2
      refine ⟨t, [u], by simp only [List.append_assoc, List.cons_append, List.nil_append]; exact t3, hd_wd (k := 1) t1 (by kernel_rfl) (by decide), fun a' vs hv hno hl => ?_⟩
      have el : t :: [u] ++ vs = t :: (u :: vs) := rfl
      rw [el] at hl ⊢
      refine ⟨⟨1, [], [], 0, ex0, [], t.pl⟩, st_er (er_none (hk.ex' (by decide))) rfl, ?_⟩
      rw [stmt_wd hl o0 o1 t1 (by simp) (k := 1) (by kernel_rfl) (by decide), if_neg (by decide)]
      unfold Rd.simple
      rw [if_neg (by decide), if_neg (by decide), if_neg (by decide), rd_must a' o hv u1]
    · -- set
      have hp := prok_of hk he (.inl rfl)
      have m1 := hk.mon (.inl rfl)
      have m2 := hk.name (.inl rfl)
      obtain rfl := hk.n9 (by decide)
      have hb0 : blocks = [] := List.eq_nil_of_length_eq_zero (hk.len0 (by decide))
      subst hb0
      have e1 : (St.mk 2 mon name 0 e [] pl).tx o = ind o ++ (mon ++ ([46] ++ (name ++ (32 :: ([61] ++ (32 :: (e.pr 1 ++ ([59] ++ [10])))))))) := by
        rw [St.tx]
        show (ind o ++ (mon ++ ([46] ++ (name ++ [32, 61, 32])))) ++ (e.pr 1 ++ [59, 10]) = _
        simp
      rw [e1] at g ⊢
      have u0 := Lx.blank (a := a + 2 * o + mon.length + 1 + name.length + 3 + (e.pr 1).length + 1) bl10 (len_eq g (by simp [ind_len]; omega))
      obtain ⟨u, u1, u2⟩ := put_sg' tk_semi (no_two_of (by decide) (by decide)) (a := a + 2 * o + mon.length + 1 + name.length + 3 + (e.pr 1).length) u0
      obtain ⟨ts, k1, k2⟩ := expr_piece e hp (a := a + 2 * o + mon.length + 1 + name.length + 3) (end59 _) u2
      have k3 := Lx.blank (a := a + 2 * o + mon.length + 1 + name.length + 2) bl32 k1
      obtain ⟨q, q1, q2⟩ := put_sg tk_eq (a := a + 2 * o + mon.length + 1 + name.length + 1) (.mk' nt32) k3
      have q3 := Lx.blank (a := a + 2 * o + mon.length + 1 + name.length) bl32 q2
      obtain ⟨v, v1, v2⟩ := put_name m2 (a := a + 2 * o + mon.length + 1) (end32 _) q3
      obtain ⟨d, d1, d2⟩ := put_sg tk_dot (a := a + 2 * o + mon.length) ((name_start m2).app _) v2
      obtain ⟨t, t1, t2⟩ := put_name m1 (a := a + 2 * o) (endOk_cons (by decide +kernel)) d2
      have t3 := Lx.ind o a t2
      refine ⟨t, d :: v :: q :: (ts ++ [u]), by simp only [List.append_assoc, List.cons_append, List.nil_append]; exact t3, .inl t1.1, fun a' vs hv hno hl => ?_⟩
      have el : t :: (d :: v :: q :: (ts ++ [u])) ++ vs = t :: d :: v :: q :: (ts ++ (u :: vs)) := by simp
      rw [el] at hl ⊢
      have hne : ts ++ u :: vs ≠ [] := by simp
      have hl4 := (((hl.tail (by simp)).tail (by simp)).tail (by simp)).tail hne
      obtain ⟨e', f1, f2⟩ := k2 a' o (u :: vs) o0 (hex (by have := hp.op; omega)) (by simp) (nop_sg u1 (by decide) (by decide) (by decide) (by decide) (by decide)) hl4
      refine ⟨⟨2, mon, name, 0, e', [], t.pl⟩, st_er f1 rfl, ?_⟩
      rw [Rd.stmt_eq (hl.ok o0 o1), rd_next, if_pos t1.1]
      unfold Rd.set_
      rw [rd_pair a' o (by simp) t1 d1 v1]
      dsimp only
      rw [rd_must a' o hne q1, f2]
      dsimp only
      rw [rd_must a' o hv u1, rd_next]
    · -- if
      have hp := prok_of hk he (.inr (.inl rfl))
      obtain rfl := hk.mon' (by decide)
      obtain rfl := hk.name' (by decide)
      obtain rfl := hk.n9 (by decide)
      have hop : e.op ≠ 0 := by have := hp.op; omega
      rcases hk.len3 rfl with hlen | hlen
      · obtain ⟨b, rfl⟩ := List.length_eq_one_iff.1 hlen
        have e1 : (St.mk 3 [] [] 0 e [b] pl).tx o = ind o ++ ([105, 102] ++ (32 :: (e.pr 1 ++ (blkX b o ++ [10])))) := by
          rw [St.tx]
          show (ind o ++ [105, 102]) ++ (exT e ++ (St.txB [b] [101, 108, 115, 101] o 0 ++ [10])) = _
          rw [txB_one]
          unfold exT orX
          rw [if_neg hop, St.txB]
          simp
        rw [e1] at g ⊢
        have u0 := Lx.blank (a := a + 2 * o + 3 + (e.pr 1).length + (blkX b o).length) bl10 (len_eq g (by simp [ind_len]; omega))
        obtain ⟨bt, bs, b1, b2, b3⟩ := hB b (by simp) (a + 2 * o + 3 + (e.pr 1).length) (10 :: rest) us u0
        obtain ⟨ts, k1, k2⟩ := expr_piece e hp (a := a + 2 * o + 3) (end32 _) b1
        have k3 := Lx.blank (a := a + 2 * o + 2) bl32 k1
        obtain ⟨t, t1, t2⟩ := put_wd (kw_tok [105, 102] (by decide)) (a := a + 2 * o) (end32 _) k3
        have t3 := Lx.ind o a t2
        refine ⟨t, ts ++ (bt :: bs), by simp only [List.append_assoc, List.cons_append, List.nil_append]; exact t3, hd_wd (k := 3) t1 (by kernel_rfl) (by decide), fun a' vs hv hno hl => ?_⟩
        have el : t :: (ts ++ (bt :: bs)) ++ vs = t :: (ts ++ (bt :: bs ++ vs)) := by simp
        rw [el] at hl ⊢
        have hne : ts ++ (bt :: bs ++ vs) ≠ [] := by simp
        have hl1 := hl.tail hne
        have hl2 := hl1.drop (ts := ts) (by simp)
        obtain ⟨e', f1, f2⟩ := k2 a' o (bt :: bs ++ vs) o0 (hex hop) (by simp) (nop_sg b2 (by decide) (by decide) (by decide) (by decide) (by decide)) hl1
        obtain ⟨b', g1, g2⟩ := b3 a' vs hv hl2
        refine ⟨⟨3, [], [], 0, e', [b'], t.pl⟩, st_er f1 (by rw [List.map_cons, List.map_cons, g1]), ?_⟩
        rw [stmt_wd hl o0 o1 t1 hne (k := 3) (by kernel_rfl) (by decide), if_pos (by decide)]
        refine comp_one (hl1.ok o0 o1) (by decide) (r := rd a' o (bt :: bs ++ vs)) ?_ g2 (fun _ => hno) hv
        unfold Rd.head
        rw [if_pos (.inl rfl), f2]
      · obtain ⟨b, c, rfl⟩ := len_two hlen
        have e1 : (St.mk 3 [] [] 0 e [b, c] pl).tx o = ind o ++ ([105, 102] ++ (32 :: (e.pr 1 ++ (blkX b o ++ (32 :: ([101, 108, 115, 101] ++ (blkX c o ++ [10]))))))) := by
          rw [St.tx]
          show (ind o ++ [105, 102]) ++ (exT e ++ (St.txB [b, c] [101, 108, 115, 101] o 0 ++ [10])) = _
          rw [txB_one, orX_cons]
          unfold exT orX
          rw [if_neg hop, St.txB]
          simp
        rw [e1] at g ⊢
        have u0 := Lx.blank (a := a + 2 * o + 3 + (e.pr 1).length + (blkX b o).length + 5 + (blkX c o).length) bl10 (len_eq g (by simp [ind_len]; omega))
        obtain ⟨ct, cs, c1, c2, c3⟩ := hB c (by simp) (a + 2 * o + 3 + (e.pr 1).length + (blkX b o).length + 5) (10 :: rest) us u0
        obtain ⟨w, w1, w2⟩ := put_wd tk_else (a := a + 2 * o + 3 + (e.pr 1).length + (blkX b o).length + 1) (end32 _) c1
        have w3 := Lx.blank (a := a + 2 * o + 3 + (e.pr 1).length + (blkX b o).length) bl32 w2
        obtain ⟨bt, bs, b1, b2, b3⟩ := hB b (by simp) (a + 2 * o + 3 + (e.pr 1).length) _ _ w3
        obtain ⟨ts, k1, k2⟩ := expr_piece e hp (a := a + 2 * o + 3) (end32 _) b1
        have k3 := Lx.blank (a := a + 2 * o + 2) bl32 k1
        obtain ⟨t, t1, t2⟩ := put_wd (kw_tok [105, 102] (by decide)) (a := a + 2 * o) (end32 _) k3
        have t3 := Lx.ind o a t2
        refine ⟨t, ts ++ (bt :: bs ++ (w :: (ct :: cs))), by simp only [List.append_assoc, List.cons_append, List.nil_append]; exact t3, hd_wd (k := 3) t1 (by kernel_rfl) (by decide), fun a' vs hv hno hl => ?_⟩
        have el : t :: (ts ++ (bt :: bs ++ (w :: (ct :: cs)))) ++ vs = t :: (ts ++ (bt :: bs ++ (w :: (ct :: cs ++ vs)))) := by simp
        rw [el] at hl ⊢
        have hne : ts ++ (bt :: bs ++ (w :: (ct :: cs ++ vs))) ≠ [] := by simp
        have hl1 := hl.tail hne
        have hl2 := hl1.drop (ts := ts) (by simp)
        have hl3 := hl2.drop (ts := bt :: bs) (by simp)
        have hl4 := hl3.tail (by simp)
        obtain ⟨e', f1, f2⟩ := k2 a' o (bt :: bs ++ (w :: (ct :: cs ++ vs))) o0 (hex hop) (by simp) (nop_sg b2 (by decide) (by decide) (by decide) (by decide) (by decide)) hl1
        obtain ⟨b', g1, g2⟩ := b3 a' (w :: (ct :: cs ++ vs)) (by simp) hl2
        obtain ⟨c', h1, h2⟩ := c3 a' vs hv hl4
        refine ⟨⟨3, [], [], 0, e', [b', c'], t.pl⟩, st_er f1 (by simp only [List.map_cons, List.map_nil, g1, h1]), ?_⟩
        rw [stmt_wd hl o0 o1 t1 hne (k := 3) (by kernel_rfl) (by decide), if_pos (by decide)]
        have hh : (rd a' o (ts ++ (bt :: bs ++ (w :: (ct :: cs ++ vs))))).head 3 = (([], e'), rd a' o (bt :: bs ++ (w :: (ct :: cs ++ vs)))) := by
          unfold Rd.head
          rw [if_pos (.inl rfl), f2]
        rw [Rd.comp_eq (hl1.ok o0 o1), hh]
        dsimp only
        rw [g2]
        dsimp only
        rw [if_pos rfl, if_pos ((rd_is a' o w _ _).2 w1.sg), rd_take a' o w (by simp), h2]
    · -- while
      have hp := prok_of hk he (.inr (.inr rfl))
      obtain rfl := hk.mon' (by decide)
      obtain rfl := hk.name' (by decide)
      obtain rfl := hk.n9 (by decide)
      have hop : e.op ≠ 0 := by have := hp.op; omega
      obtain ⟨b, rfl⟩ := List.length_eq_one_iff.1 (hk.len1 (.inl rfl))
      have e1 : (St.mk 4 [] [] 0 e [b] pl).tx o = ind o ++ ([119, 104, 105, 108, 101] ++ (32 :: (e.pr 1 ++ (blkX b o ++ [10])))) := by
        rw [St.tx]
        show (ind o ++ [119, 104, 105, 108, 101]) ++ (exT e ++ (St.txB [b] [] o 0 ++ [10])) = _
        rw [txB_one]
        unfold exT orX
        rw [if_neg hop, St.txB]
        simp
      rw [e1] at g ⊢
      have u0 := Lx.blank (a := a + 2 * o + 6 + (e.pr 1).length + (blkX b o).length) bl10 (len_eq g (by simp [ind_len]; omega))
      obtain ⟨bt, bs, b1, b2, b3⟩ := hB b (by simp) (a + 2 * o + 6 + (e.pr 1).length) (10 :: rest) us u0
      obtain ⟨ts, k1, k2⟩ := expr_piece e hp (a := a + 2 * o + 6) (end32 _) b1
      have k3 := Lx.blank (a := a + 2 * o + 5) bl32 k1
      obtain ⟨t, t1, t2⟩ := put_wd (kw_tok [119, 104, 105, 108, 101] (by decide)) (a := a + 2 * o) (end32 _) k3
      have t3 := Lx.ind o a t2
      refine ⟨t, ts ++ (bt :: bs), by simp only [List.append_assoc, List.cons_append, List.nil_append]; exact t3, hd_wd (k := 4) t1 (by kernel_rfl) (by decide), fun a' vs hv hno hl => ?_⟩
      have el : t :: (ts ++ (bt :: bs)) ++ vs = t :: (ts ++ (bt :: bs ++ vs)) := by simp
      rw [el] at hl ⊢
      have hne : ts ++ (bt :: bs ++ vs) ≠ [] := by simp
      have hl1 := hl.tail hne
      have hl2 := hl1.drop (ts := ts) (by simp)
      obtain ⟨e', f1, f2⟩ := k2 a' o (bt :: bs ++ vs) o0 (hex hop) (by simp) (nop_sg b2 (by decide) (by decide) (by decide) (by decide) (by decide)) hl1
      obtain ⟨b', g1, g2⟩ := b3 a' vs hv hl2
      refine ⟨⟨4, [], [], 0, e', [b'], t.pl⟩, st_er f1 (by rw [List.map_cons, List.map_cons, g1]), ?_⟩
      rw [stmt_wd hl o0 o1 t1 hne (k := 4) (by kernel_rfl) (by decide), if_pos (by decide)]
      refine comp_one (hl1.ok o0 o1) (by decide) (r := rd a' o (bt :: bs ++ vs)) ?_ g2 (fun h => absurd h (by decide)) hv
      unfold Rd.head
      rw [if_pos (.inr rfl), f2]
    · -- loop
      obtain rfl := hk.mon' (by decide)
      obtain rfl := hk.name' (by decide)
      obtain rfl := hk.n9 (by decide)
      have hno0 := hk.ex' (by decide)
      obtain ⟨b, rfl⟩ := List.length_eq_one_iff.1 (hk.len1 (.inr (.inl rfl)))
      have e1 : (St.mk 5 [] [] 0 e [b] pl).tx o = ind o ++ ([108, 111, 111, 112] ++ (blkX b o ++ [10])) := by
        rw [St.tx]
        show (ind o ++ [108, 111, 111, 112]) ++ (exT e ++ (St.txB [b] [] o 0 ++ [10])) = _
        rw [txB_one]
        unfold exT orX
        rw [if_pos hno0.1, St.txB]
        simp
      rw [e1] at g ⊢
      have u0 := Lx.blank (a := a + 2 * o + 4 + (blkX b o).length) bl10 (len_eq g (by simp [ind_len]; omega))
      obtain ⟨bt, bs, b1, b2, b3⟩ := hB b (by simp) (a + 2 * o + 4) (10 :: rest) us u0
      obtain ⟨t, t1, t2⟩ := put_wd (kw_tok [108, 111, 111, 112] (by decide)) (a := a + 2 * o) (end32 _) b1
      have t3 := Lx.ind o a t2
      refine ⟨t, bt :: bs, by simp only [List.append_assoc, List.cons_append, List.nil_append]; exact t3, hd_wd (k := 5) t1 (by kernel_rfl) (by decide), fun a' vs hv hno hl => ?_⟩
      have el : t :: (bt :: bs) ++ vs = t :: (bt :: bs ++ vs) := by simp
      rw [el] at hl ⊢
      have hl1 := hl.tail (by simp)
      obtain ⟨b', g1, g2⟩ := b3 a' vs hv hl1
      refine ⟨⟨5, [], [], 0, ex0, [b'], t.pl⟩, st_er (er_none hno0) (by rw [List.map_cons, List.map_cons, g1]), ?_⟩
      rw [stmt_wd hl o0 o1 t1 (by simp) (k := 5) (by kernel_rfl) (by decide), if_pos (by decide)]
      refine comp_one (hl1.ok o0 o1) (by decide) (r := rd a' o (bt :: bs ++ vs)) ?_ g2 (fun h => absurd h (by decide)) hv
      rfl
    · -- choose
      obtain rfl := hk.mon' (by decide)
      obtain rfl := hk.name' (by decide)
      obtain rfl := hk.n9 (by decide)
      have hno0 := hk.ex' (by decide)
      obtain ⟨hlen1, hlen8⟩ := hk.len6 rfl
      cases blocks with
      | nil => simp at hlen1
      | cons b r =>
      have e1 : (St.mk 6 [] [] 0 e (b :: r) pl).tx o = ind o ++ ([99, 104, 111, 111, 115, 101] ++ (blkX b o ++ (orX r [111, 114] o ++ [10]))) := by
        rw [St.tx]
        show (ind o ++ [99, 104, 111, 111, 115, 101]) ++ (exT e ++ (St.txB (b :: r) [111, 114] o 0 ++ [10])) = _
        rw [txB_one]
        unfold exT
        rw [if_pos hno0.1]
        simp
      rw [e1] at g ⊢
      have u0 := Lx.blank (a := a + 2 * o + 6 + (blkX b o).length + (orX r [111, 114] o).length) bl10 (len_eq g (by simp [ind_len]; omega))
      obtain ⟨rs, r1, r2⟩ := ors_back ho r (fun c hc => hB c (List.mem_cons_of_mem _ hc)) (a + 2 * o + 6 + (blkX b o).length) (10 :: rest) us u0
      obtain ⟨bt, bs, b1, b2, b3⟩ := hB b (by simp) (a + 2 * o + 6) _ _ r1
      obtain ⟨t, t1, t2⟩ := put_wd (kw_tok [99, 104, 111, 111, 115, 101] (by decide)) (a := a + 2 * o) (end32 _) b1
      have t3 := Lx.ind o a t2
      refine ⟨t, bt :: bs ++ rs, by simp only [List.append_assoc, List.cons_append, List.nil_append]; exact t3, hd_wd (k := 6) t1 (by kernel_rfl) (by decide), fun a' vs hv hno hl => ?_⟩
      have el : t :: (bt :: bs ++ rs) ++ vs = t :: (bt :: bs ++ (rs ++ vs)) := by simp
      rw [el] at hl ⊢
      have hne : rs ++ vs ≠ [] := by simp [hv]
      have hl1 := hl.tail (by simp)
      have hl2 := hl1.drop hne
      obtain ⟨b', g1, g2⟩ := b3 a' (rs ++ vs) hne hl1
      obtain ⟨r', h1, h2⟩ := r2 a' [b'] vs (by simp at hlen8 ⊢; omega) hv hno hl2
      refine ⟨⟨6, [], [], 0, ex0, b' :: r', t.pl⟩, st_er (er_none hno0) (by rw [List.map_cons, List.map_cons, g1, h1]), ?_⟩
      rw [stmt_wd hl o0 o1 t1 (by simp) (k := 6) (by kernel_rfl) (by decide), if_pos (by decide)]
      have hh : (rd a' o (bt :: bs ++ (rs ++ vs))).head 6 = (([], ex0), rd a' o (bt :: bs ++ (rs ++ vs))) := rfl
      rw [Rd.comp_eq (hl1.ok o0 o1), hh]
      dsimp only
      rw [g2]
      dsimp only
      rw [if_neg (by decide), if_pos rfl, h2]
      rfl
    · -- sync
      have m1 := hk.mon (.inr (by decide))
      obtain rfl := hk.name' (by decide)
      obtain rfl := hk.n9 (by decide)
      have hno0 := hk.ex' (by decide)
      obtain ⟨b, rfl⟩ := List.length_eq_one_iff.1 (hk.len1 (.inr (.inr rfl)))
      have e1 : (St.mk 7 mon [] 0 e [b] pl).tx o = ind o ++ ([115, 121, 110, 99] ++ (32 :: (mon ++ (blkX b o ++ [10])))) := by
        rw [St.tx]
        show (ind o ++ ([115, 121, 110, 99, 32] ++ mon)) ++ (exT e ++ (St.txB [b] [] o 0 ++ [10])) = _
        rw [txB_one]
        unfold exT orX
        rw [if_pos hno0.1, St.txB]
        simp
      rw [e1] at g ⊢
      have u0 := Lx.blank (a := a + 2 * o + 5 + mon.length + (blkX b o).length) bl10 (len_eq g (by simp [ind_len]; omega))
      obtain ⟨bt, bs, b1, b2, b3⟩ := hB b (by simp) (a + 2 * o + 5 + mon.length) (10 :: rest) us u0
      obtain ⟨v, v1, v2⟩ := put_name m1 (a := a + 2 * o + 5) (end32 _) b1
      have v3 := Lx.blank (a := a + 2 * o + 4) bl32 v2
      obtain ⟨t, t1, t2⟩ := put_wd (kw_tok [115, 121, 110, 99] (by decide)) (a := a + 2 * o) (end32 _) v3
      have t3 := Lx.ind o a t2
      refine ⟨t, v :: bt :: bs, by simp only [List.append_assoc, List.cons_append, List.nil_append]; exact t3, hd_wd (k := 7) t1 (by kernel_rfl) (by decide), fun a' vs hv hno hl => ?_⟩
      have el : t :: (v :: bt :: bs) ++ vs = t :: v :: (bt :: bs ++ vs) := by simp
      rw [el] at hl ⊢
      have hl1 := hl.tail (by simp)
      have hl2 := hl1.tail (by simp)
      obtain ⟨b', g1, g2⟩ := b3 a' vs hv hl2
      refine ⟨⟨7, mon, [], 0, ex0, [b'], t.pl⟩, st_er (er_none hno0) (by rw [List.map_cons, List.map_cons, g1]), ?_⟩
      rw [stmt_wd hl o0 o1 t1 (by simp) (k := 7) (by kernel_rfl) (by decide), if_pos (by decide)]
      refine comp_one (hl1.ok o0 o1) (by decide) (r := rd a' o (bt :: bs ++ vs)) ?_ g2 (fun h => absurd h (by decide)) hv
      unfold Rd.head
      rw [if_neg (by decide), if_pos rfl, rd_name a' o (by simp) v1]
    · -- call
      have m1 := hk.mon (.inr (by decide))
      have m2 := hk.name (.inr rfl)
      obtain rfl := hk.n9 (by decide)
      have hno0 := hk.ex' (by decide)
      have hb0 : blocks = [] := List.eq_nil_of_length_eq_zero (hk.len0 (by decide))
      subst hb0
      have e1 : (St.mk 8 mon name 0 e [] pl).tx o = ind o ++ ([99, 97, 108, 108] ++ (32 :: (mon ++ ([46] ++ (name ++ ([59] ++ [10])))))) := by
        rw [St.tx]
        show ind o ++ (([99, 97, 108, 108, 32] ++ (mon ++ ([46] ++ (name ++ [59])))) ++ [10]) = _
        simp
      rw [e1] at g ⊢
      have u0 := Lx.blank (a := a + 2 * o + 5 + mon.length + 1 + name.length + 1) bl10 (len_eq g (by simp [ind_len]; omega))
      obtain ⟨u, u1, u2⟩ := put_sg' tk_semi (no_two_of (by decide) (by decide)) (a := a + 2 * o + 5 + mon.length + 1 + name.length) u0
      obtain ⟨v, v1, v2⟩ := put_name m2 (a := a + 2 * o + 5 + mon.length + 1) (end59 _) u2
      obtain ⟨d, d1, d2⟩ := put_sg tk_dot (a := a + 2 * o + 5 + mon.length) ((name_start m2).app _) v2
      obtain ⟨m, k1, k2⟩ := put_name m1 (a := a + 2 * o + 5) (endOk_cons (by decide +kernel)) d2
      have k3 := Lx.blank (a := a + 2 * o + 4) bl32 k2
      obtain ⟨t, t1, t2⟩ := put_wd (kw_tok [99, 97, 108, 108] (by decide)) (a := a + 2 * o) (end32 _) k3
      have t3 := Lx.ind o a t2
      refine ⟨t, [m, d, v, u], by simp only [List.append_assoc, List.cons_append, List.nil_append]; exact t3, hd_wd (k := 8) t1 (by kernel_rfl) (by decide), fun a' vs hv hno hl => ?_⟩
      have el : t :: [m, d, v, u] ++ vs = t :: m :: d :: v :: u :: vs := rfl
      rw [el] at hl ⊢
      refine ⟨⟨8, mon, name, 0, ex0, [], t.pl⟩, st_er (er_none hno0) rfl, ?_⟩
      rw [stmt_wd hl o0 o1 t1 (by simp) (k := 8) (by kernel_rfl) (by decide), if_neg (by decide)]
      unfold Rd.simple
      rw [if_pos rfl, rd_pair a' o (by simp) k1 d1 v1]
      dsimp only
      rw [rd_must a' o hv u1]
    · -- wait
      have m1 := hk.mon (.inr (by decide))
      obtain rfl := hk.name' (by decide)
      have hno0 := hk.ex' (by decide)
      have hb0 : blocks = [] := List.eq_nil_of_length_eq_zero (hk.len0 (by decide))
      subst hb0
      have hn0 := hk.n0
      by_cases hpos : n > 0
      · have e1 : (St.mk 9 mon [] n e [] pl).tx o = ind o ++ ([119, 97, 105, 116] ++ (32 :: (mon ++ (32 :: (Lib.decDigits n.toNat ++ ([59] ++ [10])))))) := by
          rw [St.tx]
          show (ind o ++ ([119, 97, 105, 116, 32] ++ mon)) ++ ((if n > 0 then [32] ++ Lib.itoa n else []) ++ [59, 10]) = _
          rw [if_pos hpos, itoa_nn hn0]
          simp
        rw [e1] at g ⊢
        have nat : n = (n.toNat : Int) := by omega
        have big : n.toNat < 9223372036854775808 := by have := hn.2; omega
        have u0 := Lx.blank (a := a + 2 * o + 5 + mon.length + 1 + (Lib.decDigits n.toNat).length + 1) bl10 (len_eq g (by simp [ind_len]; omega))
        obtain ⟨u, u1, u2⟩ := put_sg' tk_semi (no_two_of (by decide) (by decide)) (a := a + 2 * o + 5 + mon.length + 1 + (Lib.decDigits n.toNat).length) u0
        obtain ⟨v, v1, v2⟩ := put_num big (a := a + 2 * o + 5 + mon.length + 1) (end59 _) u2
        have v3 := Lx.blank (a := a + 2 * o + 5 + mon.length) bl32 v2
        obtain ⟨m, k1, k2⟩ := put_name m1 (a := a + 2 * o + 5) (end32 _) v3
        have k3 := Lx.blank (a := a + 2 * o + 4) bl32 k2
        obtain ⟨t, t1, t2⟩ := put_wd (kw_tok [119, 97, 105, 116] (by decide)) (a := a + 2 * o) (end32 _) k3
        have t3 := Lx.ind o a t2
        refine ⟨t, [m, v, u], by simp only [List.append_assoc, List.cons_append, List.nil_append]; exact t3, hd_wd (k := 9) t1 (by kernel_rfl) (by decide), fun a' vs hv hno hl => ?_⟩
        have el : t :: [m, v, u] ++ vs = t :: m :: v :: u :: vs := rfl
        rw [el] at hl ⊢
        refine ⟨⟨9, mon, [], n, ex0, [], t.pl⟩, st_er (er_none hno0) rfl, ?_⟩
        rw [stmt_wd hl o0 o1 t1 (by simp) (k := 9) (by kernel_rfl) (by decide), if_neg (by decide)]
        unfold Rd.simple
        rw [if_neg (by decide), if_pos rfl, rd_name a' o (by simp) k1]
        dsimp only
        unfold Rd.wait
        rw [rd_next, if_pos v1.1, if_neg (by rw [v1.2]; omega), rd_take a' o v (by simp)]
        dsimp only
        rw [rd_must a' o hv u1, v1.2, ← nat]
      · have hz : n = 0 := by omega
        subst hz
        have e1 : (St.mk 9 mon [] 0 e [] pl).tx o = ind o ++ ([119, 97, 105, 116] ++ (32 :: (mon ++ ([59] ++ [10])))) := by
          rw [St.tx]
          show (ind o ++ ([119, 97, 105, 116, 32] ++ mon)) ++ ((if (0 : Int) > 0 then [32] ++ Lib.itoa 0 else []) ++ [59, 10]) = _
          rw [if_neg hpos]
          simp
        rw [e1] at g ⊢
        have u0 := Lx.blank (a := a + 2 * o + 5 + mon.length + 1) bl10 (len_eq g (by simp [ind_len]; omega))
        obtain ⟨u, u1, u2⟩ := put_sg' tk_semi (no_two_of (by decide) (by decide)) (a := a + 2 * o + 5 + mon.length) u0
        obtain ⟨m, k1, k2⟩ := put_name m1 (a := a + 2 * o + 5) (end59 _) u2
        have k3 := Lx.blank (a := a + 2 * o + 4) bl32 k2
        obtain ⟨t, t1, t2⟩ := put_wd (kw_tok [119, 97, 105, 116] (by decide)) (a := a + 2 * o) (end32 _) k3
        have t3 := Lx.ind o a t2
        refine ⟨t, [m, u], by simp only [List.append_assoc, List.cons_append, List.nil_append]; exact t3, hd_wd (k := 9) t1 (by kernel_rfl) (by decide), fun a' vs hv hno hl => ?_⟩
        have el : t :: [m, u] ++ vs = t :: m :: u :: vs := rfl
        rw [el] at hl ⊢
        refine ⟨⟨9, mon, [], 0, ex0, [], t.pl⟩, st_er (er_none hno0) rfl, ?_⟩
        rw [stmt_wd hl o0 o1 t1 (by simp) (k := 9) (by kernel_rfl) (by decide), if_neg (by decide)]
        unfold Rd.simple
        rw [if_neg (by decide), if_pos rfl, rd_name a' o (by simp) k1]
        dsimp only
        unfold Rd.wait
        rw [rd_next, if_neg (sg_kind u1).2.1]
        dsimp only
        rw [rd_must a' o hv u1]
    · -- notify
      have m1 := hk.mon (.inr (by decide))
      obtain rfl := hk.name' (by decide)
      obtain rfl := hk.n9 (by decide)
      have hno0 := hk.ex' (by decide)
      have hb0 : blocks = [] := List.eq_nil_of_length_eq_zero (hk.len0 (by decide))
      subst hb0
      have e1 : (St.mk 10 mon [] 0 e [] pl).tx o = ind o ++ ([110, 111, 116, 105, 102, 121] ++ (32 :: (mon ++ ([59] ++ [10])))) := by
        rw [St.tx]
        show ind o ++ (([110, 111, 116, 105, 102, 121, 32] ++ (mon ++ [59])) ++ [10]) = _
        simp
      rw [e1] at g ⊢
      have u0 := Lx.blank (a := a + 2 * o + 7 + mon.length + 1) bl10 (len_eq g (by simp [ind_len]; omega))
      obtain ⟨u, u1, u2⟩ := put_sg' tk_semi (no_two_of (by decide) (by decide)) (a := a + 2 * o + 7 + mon.length) u0
      obtain ⟨m, k1, k2⟩ := put_name m1 (a := a + 2 * o + 7) (end59 _) u2
      have k3 := Lx.blank (a := a + 2 * o + 6) bl32 k2
      obtain ⟨t, t1, t2⟩ := put_wd (kw_tok [110, 111, 116, 105, 102, 121] (by decide)) (a := a + 2 * o) (end32 _) k3
      have t3 := Lx.ind o a t2
      refine ⟨t, [m, u], by simp only [List.append_assoc, List.cons_append, List.nil_append]; exact t3, hd_wd (k := 10) t1 (by kernel_rfl) (by decide), fun a' vs hv hno hl => ?_⟩
      have el : t :: [m, u] ++ vs = t :: m :: u :: vs := rfl
      rw [el] at hl ⊢
      refine ⟨⟨10, mon, [], 0, ex0, [], t.pl⟩, st_er (er_none hno0) rfl, ?_⟩
      rw [stmt_wd hl o0 o1 t1 (by simp) (k := 10) (by kernel_rfl) (by decide), if_neg (by decide)]
      unfold Rd.simple
      rw [if_neg (by decide), if_neg (by decide), if_pos (by decide), rd_name a' o (by simp) k1]
      dsimp only
      rw [rd_must a' o hv u1]
    · -- notifyall
      have m1 := hk.mon (.inr (by decide))
      obtain rfl := hk.name' (by decide)
      obtain rfl := hk.n9 (by decide)
      have hno0 := hk.ex' (by decide)
      have hb0 : blocks = [] := List.eq_nil_of_length_eq_zero (hk.len0 (by decide))
      subst hb0
      have e1 : (St.mk 11 mon [] 0 e [] pl).tx o = ind o ++ ([110, 111, 116, 105, 102, 121, 97, 108, 108] ++ (32 :: (mon ++ ([59] ++ [10])))) := by
        rw [St.tx]
        show ind o ++ (([110, 111, 116, 105, 102, 121, 97, 108, 108, 32] ++ (mon ++ [59])) ++ [10]) = _
        simp
      rw [e1] at g ⊢
      have u0 := Lx.blank (a := a + 2 * o + 10 + mon.length + 1) bl10 (len_eq g (by simp [ind_len]; omega))
      obtain ⟨u, u1, u2⟩ := put_sg' tk_semi (no_two_of (by decide) (by decide)) (a := a + 2 * o + 10 + mon.length) u0
      obtain ⟨m, k1, k2⟩ := put_name m1 (a := a + 2 * o + 10) (end59 _) u2
      have k3 := Lx.blank (a := a + 2 * o + 9) bl32 k2
      obtain ⟨t, t1, t2⟩ := put_wd (kw_tok [110, 111, 116, 105, 102, 121, 97, 108, 108] (by decide)) (a := a + 2 * o) (end32 _) k3
      have t3 := Lx.ind o a t2
      refine ⟨t, [m, u], by simp only [List.append_assoc, List.cons_append, List.nil_append]; exact t3, hd_wd (k := 11) t1 (by kernel_rfl) (by decide), fun a' vs hv hno hl => ?_⟩
      have el : t :: [m, u] ++ vs = t :: m :: u :: vs := rfl
      rw [el] at hl ⊢
      refine ⟨⟨11, mon, [], 0, ex0, [], t.pl⟩, st_er (er_none hno0) rfl, ?_⟩
      rw [stmt_wd hl o0 o1 t1 (by simp) (k := 11) (by kernel_rfl) (by decide), if_neg (by decide)]
      unfold Rd.simple
      rw [if_neg (by decide), if_neg (by decide), if_pos (by decide), rd_name a' o (by simp) k1]
      dsimp only
      rw [rd_must a' o hv u1]
end Go.Proofs.YtmflfcbebeikcaaGreatDoor.Q

namespace Go.Proofs.YtmflfcbebeikcaaGreatDoor.Q
open Go.RowKit
variable [Amb] [Pow]
/-! ### numbers with a sign -/
theorem itoa_start (n : Int) : startOk (Lib.itoa n) := by
  unfold Lib.itoa
  split
  · exact .mk' (by unfold noTwo; decide)
  · exact dec_start _
theorem rd_may {a o : Int} {t : Tk} {l : List Tk} {s : Str} (hl : l ≠ []) (h : t.sg s) : (rd a o (t :: l)).may s = (true, rd a o l) := by
  unfold Rd.may
  rw [if_pos ((rd_is a o t l s).2 h), rd_take a o t hl]
theorem rd_may' {a o : Int} {t : Tk} {l : List Tk} {s : Str} (h : ¬ t.sg s) : (rd a o (t :: l)).may s = (false, rd a o (t :: l)) := by
  unfold Rd.may
  rw [if_neg fun k => h ((rd_is a o t l s).1 k)]
theorem nu_no {t : Tk} {n : Int} (h : t.nu n) (s : Str) : ¬ t.sg s := fun k => by have := h.1; have := k.1; omega
theorem whole_piece (n : Int) (hn : R64 n) (hm : n ≠ -9223372036854775808) {a : Nat} {rest : Str} {us : List Tk} (hr : endOk rest) (g : Lx rest (a + (Lib.itoa n).length) us) :
    ∃ t ts, Lx (Lib.itoa n ++ rest) a (t :: ts ++ us) ∧ (∀ s : Str, s ≠ [45] → ¬ t.sg s) ∧ ∀ (a' o : Int) (vs : List Tk), vs ≠ [] → (rd a' o (t :: ts ++ vs)).whole = (n, rd a' o vs) := by
  unfold R64 at hn
  unfold Lib.itoa at g ⊢
  by_cases h : n < 0
  · rw [if_pos h] at g ⊢
    obtain ⟨t, t1, t2⟩ := put_num (n := n.natAbs) (by omega) (a := a + 1) hr (len_eq g (by simp; omega))
    obtain ⟨u, u1, u2⟩ := put_sg tk_neg (a := a) ((dec_start _).app _) t2
    refine ⟨u, [t], u2, fun s hs k => hs (k.2.symm.trans u1.2), fun a' o vs hv => ?_⟩
    unfold Rd.whole
    have e1 : (rd a' o (u :: [t] ++ vs)).may [45] = (true, rd a' o (t :: vs)) := rd_may (by simp) u1
    rw [e1, rd_of a' o hv t1.1]
    dsimp only
    rw [if_pos rfl, t1.2, wrap_in (by unfold R64; omega)]
    congr 1; omega
  · rw [if_neg h] at g ⊢
    obtain ⟨t, t1, t2⟩ := put_num (n := n.toNat) (by omega) (a := a) hr g
    refine ⟨t, [], t2, fun s hs => nu_no t1 s, fun a' o vs hv => ?_⟩
    unfold Rd.whole
    have e1 : (rd a' o (t :: [] ++ vs)).may [45] = (false, rd a' o (t :: vs)) := rd_may' (nu_no t1 _)
    rw [e1]
    dsimp only
    rw [rd_of a' o hv t1.1]
    dsimp only
    rw [if_neg (by decide), t1.2]
    congr 1; omega
/-! ### variables -/
theorem kv_tok : isTok 3 wVar 0 ∧ isTok 3 wMethod 0 ∧ isTok 3 wMonitor 0 ∧ isTok 3 wThread 0 ∧ isTok 3 [98, 111, 111, 108] 0 ∧ isTok 3 [105, 110, 116] 0 :=
  ⟨⟨by decide, by kernel_rfl⟩, ⟨by decide, by kernel_rfl⟩, ⟨by decide, by kernel_rfl⟩, ⟨by decide, by kernel_rfl⟩, ⟨by decide, by kernel_rfl⟩, ⟨by decide, by kernel_rfl⟩⟩
structure VrIs (v : Vr) : Prop where
  name : isName v.name = true
  lo : R64 v.lo ∧ v.lo ≠ -9223372036854775808
  hi : R64 v.hi ∧ v.hi ≠ -9223372036854775808
  init : R64 v.init ∧ v.init ≠ -9223372036854775808
  kind : (v.type = 1 ∧ v.lo = 0 ∧ v.hi = 0 ∧ (v.init = 0 ∨ v.init = 1)) ∨ (v.type = 2 ∧ v.lo = 0 ∧ v.hi = 0) ∨ (v.type = 3 ∧ v.lo ≤ v.hi)
theorem vr_is {v : Vr} (h : v.ok = true) (hp : VrP v) : VrIs v := by
  unfold Vr.ok at h
  simp only [Bool.and_eq_true, Bool.not_eq_true', beq_eq_false_iff_ne] at h
  obtain ⟨⟨h1, h2⟩, h3⟩ := h
  have e1 := hp.lo
  have e2 := hp.hi
  have e3 := hp.init
  unfold R64 at e1 e2 e3
  have hmin : v.lo ≠ -9223372036854775808 ∧ v.hi ≠ -9223372036854775808 ∧ v.init ≠ -9223372036854775808 := by
    simp only [minI] at h2
    split at h2 <;> split at h2 <;> omega
  refine ⟨h1, ⟨hp.lo, hmin.1⟩, ⟨hp.hi, hmin.2.1⟩, ⟨hp.init, hmin.2.2⟩, ?_⟩
  split at h3
  · simp only [Bool.and_eq_true, Bool.or_eq_true, beq_iff_eq] at h3
    rename_i ht
    exact .inl ⟨ht, h3.1.1, h3.1.2, h3.2⟩
  split at h3
  · simp only [Bool.and_eq_true, beq_iff_eq] at h3
    rename_i ht
    exact .inr (.inl ⟨ht, h3.1, h3.2⟩)
  split at h3
  · rename_i ht
    exact .inr (.inr ⟨ht, by simpa using h3⟩)
  · cases h3
def VB (v : Vr) : Prop := ∀ (a : Nat) (rest : Str) (us : List Tk), Lx rest (a + (vrT v 1).length) us → ∃ t ts, Lx (vrT v 1 ++ rest) a (t :: ts ++ us) ∧ t.wd wVar ∧
  ∀ (a' o : Int) (vs : List Tk), vs ≠ [] → ∃ v' : Vr, v'.er = v.er ∧ (rd a' o (ts ++ vs)).var = (v', rd a' o vs)
theorem end_dots (r : Str) : endOk (46 :: r) := endOk_cons (by decide +kernel)
theorem wd_not {t : Tk} {w s : Str} (h : t.wd w) (hs : s ≠ w) : ¬ t.sg s := fun k => hs (k.2.symm.trans h.2)
theorem sg_not {t : Tk} {w s : Str} (h : t.sg w) (hs : s ≠ w) : ¬ t.sg s := fun k => hs (k.2.symm.trans h.2)
theorem is_not {a o : Int} {t : Tk} {l : List Tk} {s : Str} (h : ¬ t.sg s) : ¬ (rd a o (t :: l)).is s = true := fun k => h ((rd_is a o t l s).1 k)
theorem is_yes {a o : Int} {t : Tk} {l : List Tk} {s : Str} (h : t.sg s) : (rd a o (t :: l)).is s = true := (rd_is a o t l s).2 h
theorem var_back {v : Vr} (h : VrIs v) : VB v := by
  intro a rest us g
  have m1 := h.name
  have hk := h.kind
  obtain ⟨hlo, hhi, hin⟩ := And.intro h.lo (And.intro h.hi h.init)
  obtain ⟨name, type, lo, hi, init, pl⟩ := v
  dsimp only at *
  clear h
  -- what stands ahead, and the end
  have pre : ∀ (w : Str) (b : UInt8) (wr : Str), w = b :: wr → ∀ (ts : List Tk), Lx (w ++ (59 :: 10 :: rest)) (a + 2 + 4 + name.length + 3) (ts ++ us) →
      ∃ t m c, Lx ((ind 1 ++ ([118, 97, 114, 32] ++ (name ++ [32, 58, 32]))) ++ (w ++ (59 :: 10 :: rest))) a (t :: m :: c :: (ts ++ us)) ∧ t.wd wVar ∧ m.nm name ∧ c.sg [58] := by
    intro w b wr hw ts hg
    have k3 := Lx.blank (a := a + 2 + 4 + name.length + 2) bl32 hg
    obtain ⟨c, c1, c2⟩ := put_sg' tk_col (no_two_of (by decide) (by decide)) (a := a + 2 + 4 + name.length + 1) k3
    have c3 := Lx.blank (a := a + 2 + 4 + name.length) bl32 c2
    obtain ⟨m, n1, n2⟩ := put_name m1 (a := a + 2 + 4) (end32 _) c3
    have n3 := Lx.blank (a := a + 2 + 3) bl32 n2
    obtain ⟨t, t1, t2⟩ := put_wd kv_tok.1 (a := a + 2) (end32 _) n3
    have t3 := Lx.ind 1 a t2
    refine ⟨t, m, c, ?_, t1, n1, c1⟩
    have e : (ind 1 ++ ([118, 97, 114, 32] ++ (name ++ [32, 58, 32]))) ++ (w ++ (59 :: 10 :: rest)) = ind 1 ++ (wVar ++ (32 :: (name ++ (32 :: ([58] ++ (32 :: (w ++ (59 :: 10 :: rest)))))))) := by simp [wVar]
    rw [e]; exact t3
  have semi : ∀ k : Nat, Lx rest (k + 2) us → ∃ u : Tk, u.sg [59] ∧ Lx (59 :: 10 :: rest) k (u :: us) := fun k hg => by
    have u0 := Lx.blank (a := k + 1) bl10 hg
    exact put_sg' tk_semi (no_two_of (by decide) (by decide)) (a := k) u0
  have ev : ∀ w : Str, (ind 1 ++ ([118, 97, 114, 32] ++ (name ++ [32, 58, 32]))) ++ (w ++ [59, 10]) ++ rest = (ind 1 ++ ([118, 97, 114, 32] ++ (name ++ [32, 58, 32]))) ++ (w ++ (59 :: 10 :: rest)) := fun w => by simp
  have head : ∀ {a' o : Int} {m c : Tk} {l : List Tk}, l ≠ [] → m.nm name → c.sg [58] → (rd a' o (m :: c :: l)).name = ((name, m.pl), rd a' o (c :: l)) ∧ (rd a' o (c :: l)).must [58] = rd a' o l := fun hl h1 h2 => ⟨rd_name _ _ (by simp) h1, rd_must _ _ hl h2⟩
  rcases hk with ⟨rfl, rfl, rfl, hb⟩ | ⟨rfl, rfl, rfl⟩ | ⟨rfl, hle⟩
  · -- bool
    have e1 : vrT ⟨name, 1, 0, 0, init, pl⟩ 1 = (ind 1 ++ ([118, 97, 114, 32] ++ (name ++ [32, 58, 32]))) ++ (([98, 111, 111, 108, 32, 61, 32] ++ boolS (init == 1)) ++ [59, 10]) := rfl
    rw [e1] at g ⊢
    obtain ⟨u, u1, u2⟩ := semi (a + 2 + 4 + name.length + 3 + 7 + (boolS (init == 1)).length) (len_eq g (by simp [ind_len]; omega))
    have hw : isTok 3 (boolS (init == 1)) 0 := by
      rcases hb with rfl | rfl
      · exact tk_fls
      · exact tk_tru
    obtain ⟨x, x1, x2⟩ := put_wd hw (a := a + 2 + 4 + name.length + 3 + 7) (end59 _) u2
    have x3 := Lx.blank (a := a + 2 + 4 + name.length + 3 + 6) bl32 x2
    obtain ⟨q, q1, q2⟩ := put_sg tk_eq (a := a + 2 + 4 + name.length + 3 + 5) (.mk' nt32) x3
    have q3 := Lx.blank (a := a + 2 + 4 + name.length + 3 + 4) bl32 q2
    obtain ⟨k, k1, k2⟩ := put_wd kv_tok.2.2.2.2.1 (a := a + 2 + 4 + name.length + 3) (end32 _) q3
    obtain ⟨t, m, c, t1, t2, t3, t4⟩ := pre ([98, 111, 111, 108, 32, 61, 32] ++ boolS (init == 1)) _ _ rfl [k, q, x, u] k2
    refine ⟨t, [m, c, k, q, x, u], by rw [ev]; exact t1, t2, fun a' o vs hv => ?_⟩
    have el : [m, c, k, q, x, u] ++ vs = m :: c :: k :: q :: x :: u :: vs := rfl
    rw [el]
    obtain ⟨h1, h2⟩ := head (a' := a') (o := o) (l := k :: q :: x :: u :: vs) (by simp) t3 t4
    refine ⟨⟨name, 1, 0, 0, init, m.pl⟩, rfl, ?_⟩
    unfold Rd.var
    rw [h1]
    dsimp only
    rw [h2, if_pos (is_yes k1.sg), rd_take a' o k (by simp)]
    unfold Rd.bol
    rw [rd_must a' o (by simp) q1]
    rcases hb with rfl | rfl
    · have x1 : x.wd [102, 97, 108, 115, 101] := x1
      rw [if_neg (is_not (wd_not x1 (by decide)))]
      dsimp only
      rw [rd_must a' o (by simp) x1.sg, rd_must a' o hv u1]
    · have x1 : x.wd [116, 114, 117, 101] := x1
      rw [if_pos (is_yes x1.sg)]
      dsimp only
      rw [rd_take a' o x (by simp), rd_must a' o hv u1]
  · -- int
    have e1 : vrT ⟨name, 2, 0, 0, init, pl⟩ 1 = (ind 1 ++ ([118, 97, 114, 32] ++ (name ++ [32, 58, 32]))) ++ (([105, 110, 116, 32, 61, 32] ++ Lib.itoa init) ++ [59, 10]) := rfl
    rw [e1] at g ⊢
    obtain ⟨u, u1, u2⟩ := semi (a + 2 + 4 + name.length + 3 + 6 + (Lib.itoa init).length) (len_eq g (by simp [ind_len]; omega))
    obtain ⟨x, xs, x1, x2, x3⟩ := whole_piece init hin.1 hin.2 (a := a + 2 + 4 + name.length + 3 + 6) (end59 _) u2
    have x4 := Lx.blank (a := a + 2 + 4 + name.length + 3 + 5) bl32 x1
    obtain ⟨q, q1, q2⟩ := put_sg tk_eq (a := a + 2 + 4 + name.length + 3 + 4) (.mk' nt32) x4
    have q3 := Lx.blank (a := a + 2 + 4 + name.length + 3 + 3) bl32 q2
    obtain ⟨k, k1, k2⟩ := put_wd kv_tok.2.2.2.2.2 (a := a + 2 + 4 + name.length + 3) (end32 _) q3
    obtain ⟨t, m, c, t1, t2, t3, t4⟩ := pre ([105, 110, 116, 32, 61, 32] ++ Lib.itoa init) _ _ rfl (k :: q :: (x :: xs ++ [u])) (by
      have : k :: q :: (x :: xs ++ [u]) ++ us = k :: q :: (x :: xs ++ u :: us) := by simp
      rw [this]; exact k2)
    refine ⟨t, m :: c :: (k :: q :: (x :: xs ++ [u])), by rw [ev]; exact t1, t2, fun a' o vs hv => ?_⟩
    have el : m :: c :: (k :: q :: (x :: xs ++ [u])) ++ vs = m :: c :: k :: q :: (x :: xs ++ u :: vs) := by simp
    rw [el]
    obtain ⟨h1, h2⟩ := head (a' := a') (o := o) (l := k :: q :: (x :: xs ++ u :: vs)) (by simp) t3 t4
    refine ⟨⟨name, 2, 0, 0, init, m.pl⟩, rfl, ?_⟩
    unfold Rd.var
    rw [h1]
    dsimp only
    rw [h2, if_neg (is_not (wd_not k1 (by decide))), if_pos (is_yes k1.sg), rd_take a' o k (by simp)]
    unfold Rd.fin
    rw [rd_must a' o (by simp) q1, x3 a' o (u :: vs) (by simp)]
    dsimp only
    rw [rd_must a' o hv u1]
  · -- range
    have e1 : vrT ⟨name, 3, lo, hi, init, pl⟩ 1 = (ind 1 ++ ([118, 97, 114, 32] ++ (name ++ [32, 58, 32]))) ++ ((Lib.itoa lo ++ ([46, 46] ++ (Lib.itoa hi ++ ([32, 61, 32] ++ Lib.itoa init)))) ++ [59, 10]) := rfl
    rw [e1] at g ⊢
    obtain ⟨b, wr, hw, _⟩ := itoa_start lo
    obtain ⟨u, u1, u2⟩ := semi (a + 2 + 4 + name.length + 3 + (Lib.itoa lo).length + 2 + (Lib.itoa hi).length + 3 + (Lib.itoa init).length) (len_eq g (by simp [ind_len]; omega))
    obtain ⟨x, xs, x1, x2, x3⟩ := whole_piece init hin.1 hin.2 (a := a + 2 + 4 + name.length + 3 + (Lib.itoa lo).length + 2 + (Lib.itoa hi).length + 3) (end59 _) u2
    have x4 := Lx.blank (a := a + 2 + 4 + name.length + 3 + (Lib.itoa lo).length + 2 + (Lib.itoa hi).length + 2) bl32 x1
    obtain ⟨q, q1, q2⟩ := put_sg tk_eq (a := a + 2 + 4 + name.length + 3 + (Lib.itoa lo).length + 2 + (Lib.itoa hi).length + 1) (.mk' nt32) x4
    have q3 := Lx.blank (a := a + 2 + 4 + name.length + 3 + (Lib.itoa lo).length + 2 + (Lib.itoa hi).length) bl32 q2
    obtain ⟨y, ys, y1, y2, y3⟩ := whole_piece hi hhi.1 hhi.2 (a := a + 2 + 4 + name.length + 3 + (Lib.itoa lo).length + 2) (end32 _) q3
    obtain ⟨d, d1, d2⟩ := put_sg2 tk_dots (by decide) (a := a + 2 + 4 + name.length + 3 + (Lib.itoa lo).length) y1
    obtain ⟨z, zs, z1, z2, z3⟩ := whole_piece lo hlo.1 hlo.2 (a := a + 2 + 4 + name.length + 3) (end_dots _) d2
    obtain ⟨t, m, c, t1, t2, t3, t4⟩ := pre (Lib.itoa lo ++ ([46, 46] ++ (Lib.itoa hi ++ ([32, 61, 32] ++ Lib.itoa init)))) b (wr ++ ([46, 46] ++ (Lib.itoa hi ++ ([32, 61, 32] ++ Lib.itoa init)))) (by rw [hw]; rfl) (z :: zs ++ (d :: (y :: ys ++ (q :: (x :: xs ++ [u]))))) (by
      have e2 : z :: zs ++ (d :: (y :: ys ++ (q :: (x :: xs ++ [u])))) ++ us = z :: zs ++ (d :: (y :: ys ++ (q :: (x :: xs ++ u :: us)))) := by simp
      have e3 : (Lib.itoa lo ++ ([46, 46] ++ (Lib.itoa hi ++ ([32, 61, 32] ++ Lib.itoa init)))) ++ (59 :: 10 :: rest) = Lib.itoa lo ++ ([46, 46] ++ (Lib.itoa hi ++ (32 :: ([61] ++ (32 :: (Lib.itoa init ++ (59 :: 10 :: rest))))))) := by simp
      rw [e2, e3]; exact z1)
    refine ⟨t, m :: c :: (z :: zs ++ (d :: (y :: ys ++ (q :: (x :: xs ++ [u]))))), by rw [ev]; exact t1, t2, fun a' o vs hv => ?_⟩
    have el : m :: c :: (z :: zs ++ (d :: (y :: ys ++ (q :: (x :: xs ++ [u]))))) ++ vs = m :: c :: (z :: zs ++ (d :: (y :: ys ++ (q :: (x :: xs ++ u :: vs))))) := by simp
    rw [el]
    obtain ⟨h1, h2⟩ := head (a' := a') (o := o) (l := z :: zs ++ (d :: (y :: ys ++ (q :: (x :: xs ++ u :: vs))))) (by simp) t3 t4
    have nb : ∀ s : Str, s ≠ [45] → ¬ (rd a' o (z :: zs ++ (d :: (y :: ys ++ (q :: (x :: xs ++ u :: vs)))))).is s = true := fun s hs => is_not (z2 s hs)
    refine ⟨⟨name, 3, lo, hi, init, m.pl⟩, rfl, ?_⟩
    unfold Rd.var
    rw [h1]
    dsimp only
    rw [h2, if_neg (nb _ (by decide)), if_neg (nb _ (by decide))]
    unfold Rd.rng
    rw [z3 a' o (d :: (y :: ys ++ (q :: (x :: xs ++ u :: vs)))) (by simp)]
    dsimp only
    rw [rd_must a' o (by simp) d1, y3 a' o (q :: (x :: xs ++ u :: vs)) (by simp)]
    dsimp only
    rw [if_neg (by omega)]
    unfold Rd.fin
    rw [rd_must a' o (by simp) q1, x3 a' o (u :: vs) (by simp)]
    dsimp only
    rw [rd_must a' o hv u1]
end Go.Proofs.YtmflfcbebeikcaaGreatDoor.Q

namespace Go.Proofs.YtmflfcbebeikcaaGreatDoor.Q
open Go.RowKit
variable [Amb] [Pow]
/-- No word of a kind is next. -/
def noW (w : Str) (l : List Tk) : Prop := ∀ t ∈ l.head?, ¬ t.sg w
theorem noW_is {w : Str} {a o : Int} {l : List Tk} (hl : l ≠ []) (h : noW w l) : ¬ (rd a o l).is w = true := by
  cases l with
  | nil => exact absurd rfl hl
  | cons t l => exact is_not (h t rfl)
theorem room_ok {r : Rd} {n most : Int} (h : n < most) : r.room n most = r := by unfold Rd.room; rw [if_neg (by omega)]
theorem vars_back : ∀ (l : List Vr), (∀ v ∈ l, VB v) → ∀ (a : Nat) (rest : Str) (us : List Tk), Lx rest (a + (catG (fun v => vrT v 1) l).length) us → ∃ ts, Lx (catG (fun v => vrT v 1) l ++ rest) a (ts ++ us) ∧ l.length ≤ ts.length ∧
    ∀ (a' o : Int) (acc : List Vr) (f : Nat) (vs : List Tk), l.length < f → acc.length + l.length ≤ 16 → vs ≠ [] → noW wVar vs → ∃ l' : List Vr, l'.map Vr.er = l.map Vr.er ∧ varsF f acc (rd a' o (ts ++ vs)) = (acc ++ l', rd a' o vs)
  | [], _, a, rest, us, g => ⟨[], by simpa [catG] using g, Nat.le_refl _, fun a' o acc f vs hf _ hv hn => ⟨[], rfl, by
      cases f with
      | zero => simp at hf
      | succ f => rw [List.nil_append, varsF, if_neg (noW_is hv hn), List.append_nil]⟩⟩
  | v :: r, h, a, rest, us, g => by
    rw [catG] at g ⊢
    obtain ⟨ts2, k1, kn, k2⟩ := vars_back r (fun c hc => h c (List.mem_cons_of_mem _ hc)) (a + (vrT v 1).length) rest us (len_eq g (by rw [List.length_append]; omega))
    obtain ⟨t, ts1, m1, m2, m3⟩ := h v (by simp) a (catG (fun v => vrT v 1) r ++ rest) (ts2 ++ us) k1
    refine ⟨t :: ts1 ++ ts2, by simp only [List.append_assoc, List.cons_append, List.nil_append]; exact m1, by simp; omega, fun a' o acc f vs hf hacc hv hn => ?_⟩
    have el : t :: ts1 ++ ts2 ++ vs = t :: (ts1 ++ (ts2 ++ vs)) := by simp
    rw [el]
    have hne : ts2 ++ vs ≠ [] := by simp [hv]
    have hacc' : acc.length + (r.length + 1) ≤ 16 := hacc
    have hf' : r.length + 1 < f := hf
    obtain ⟨v', e1, e2⟩ := m3 a' o (ts2 ++ vs) hne
    cases f with
    | zero => omega
    | succ f =>
    obtain ⟨l', f1, f2⟩ := k2 a' o (acc ++ [v']) f vs (by omega) (by simp; omega) hv hn
    refine ⟨v' :: l', by rw [List.map_cons, List.map_cons, e1, f1], ?_⟩
    rw [varsF, if_pos (is_yes m2.sg), room_ok (by omega), rd_take a' o t (by simp [hv]), e2]
    dsimp only
    rw [f2]; simp
/-! ### methods -/
def MB (f : Mt) : Prop := ∀ (a : Nat) (rest : Str) (us : List Tk), Lx rest (a + (mtT f 1).length) us → ∃ t ts, Lx (mtT f 1 ++ rest) a (t :: ts ++ us) ∧ t.wd wMethod ∧
  ∀ (a' : Int) (vs : List Tk), vs ≠ [] → Tl (ts ++ vs) → ∃ f' : Mt, f'.er = f.er ∧ (rd a' 1 (ts ++ vs)).meth = (f', rd a' 1 vs)
theorem blockT_X (b : List St) (o : Nat) : blockT St.tx b o = blkX b o := by
  unfold blockT blkX
  rw [St.txL_cat]
theorem meth_back {f : Mt} (hn : isName f.name = true) (hb : BB f.body 1) : MB f := by
  intro a rest us g
  have e1 : mtT f 1 = ind 1 ++ (wMethod ++ (32 :: (f.name ++ (blkX f.body 1 ++ [10])))) := by
    unfold mtT
    rw [blockT_X]
    simp [wMethod]
  rw [e1] at g ⊢
  have u0 := Lx.blank (a := a + 2 + 7 + f.name.length + (blkX f.body 1).length) bl10 (len_eq g (by simp [ind_len, wMethod]; omega))
  obtain ⟨bt, bs, b1, b2, b3⟩ := hb (a + 2 + 7 + f.name.length) (10 :: rest) us u0
  obtain ⟨m, k1, k2⟩ := put_name hn (a := a + 2 + 7) (end32 _) b1
  have k3 := Lx.blank (a := a + 2 + 6) bl32 k2
  obtain ⟨t, t1, t2⟩ := put_wd kv_tok.2.1 (a := a + 2) (end32 _) k3
  have t3 := Lx.ind 1 a t2
  refine ⟨t, m :: bt :: bs, by simp only [List.append_assoc, List.cons_append, List.nil_append]; exact t3, t1, fun a' vs hv hl => ?_⟩
  have el : m :: bt :: bs ++ vs = m :: (bt :: bs ++ vs) := by simp
  rw [el] at hl ⊢
  obtain ⟨b', g1, g2⟩ := b3 a' vs hv (hl.tail (by simp))
  refine ⟨⟨f.name, b', m.pl⟩, by unfold Mt.er; rw [g1], ?_⟩
  unfold Rd.meth
  rw [rd_name a' 1 (by simp) k1]
  dsimp only
  have g2' : (rd a' 1 (bt :: bs ++ vs)).block = (b', rd a' 1 vs) := g2
  rw [g2']
theorem meths_back : ∀ (l : List Mt), (∀ f ∈ l, MB f) → ∀ (a : Nat) (rest : Str) (us : List Tk), Lx rest (a + (catG (fun f => mtT f 1) l).length) us → ∃ ts, Lx (catG (fun f => mtT f 1) l ++ rest) a (ts ++ us) ∧ l.length ≤ ts.length ∧ (∀ t ∈ ts.head?, t.wd wMethod) ∧
    ∀ (a' : Int) (acc : List Mt) (f : Nat) (vs : List Tk), l.length < f → acc.length + l.length ≤ 16 → vs ≠ [] → noW wMethod vs → Tl (ts ++ vs) → ∃ l' : List Mt, l'.map Mt.er = l.map Mt.er ∧ methsF f acc (rd a' 1 (ts ++ vs)) = (acc ++ l', rd a' 1 vs)
  | [], _, a, rest, us, g => ⟨[], by simpa [catG] using g, Nat.le_refl _, by simp, fun a' acc f vs hf _ hv hn _ => ⟨[], rfl, by
      cases f with
      | zero => simp at hf
      | succ f => rw [List.nil_append, methsF, if_neg (noW_is hv hn), List.append_nil]⟩⟩
  | v :: r, h, a, rest, us, g => by
    rw [catG] at g ⊢
    obtain ⟨ts2, k1, kn, _, k2⟩ := meths_back r (fun c hc => h c (List.mem_cons_of_mem _ hc)) (a + (mtT v 1).length) rest us (len_eq g (by rw [List.length_append]; omega))
    obtain ⟨t, ts1, m1, m2, m3⟩ := h v (by simp) a (catG (fun f => mtT f 1) r ++ rest) (ts2 ++ us) k1
    refine ⟨t :: ts1 ++ ts2, by simp only [List.append_assoc, List.cons_append, List.nil_append]; exact m1, by simp; omega, fun u hu => by simp at hu; subst hu; exact m2, fun a' acc f vs hf hacc hv hn hl => ?_⟩
    have el : t :: ts1 ++ ts2 ++ vs = t :: (ts1 ++ (ts2 ++ vs)) := by simp
    rw [el] at hl ⊢
    have hne : ts2 ++ vs ≠ [] := by simp [hv]
    have hl1 := hl.tail (by simp [hv])
    have hacc' : acc.length + (r.length + 1) ≤ 16 := hacc
    have hf' : r.length + 1 < f := hf
    obtain ⟨v', e1, e2⟩ := m3 a' (ts2 ++ vs) hne hl1
    cases f with
    | zero => omega
    | succ f =>
    obtain ⟨l', f1, f2⟩ := k2 a' (acc ++ [v']) f vs (by omega) (by simp; omega) hv hn (hl1.drop hne)
    refine ⟨v' :: l', by rw [List.map_cons, List.map_cons, e1, f1], ?_⟩
    rw [methsF, if_pos (is_yes m2.sg), room_ok (by omega), rd_take a' 1 t (by simp [hv]), e2]
    dsimp only
    rw [f2]; simp
/-! ### monitors -/
structure MoIs (m : Mo) : Prop where
  name : isName m.name = true
  vlen : m.vars.length ≤ 16
  mlen : m.methods.length ≤ 16
  vars : ∀ v ∈ m.vars, VB v
  meths : ∀ f ∈ m.methods, MB f
def OB (m : Mo) : Prop := ∀ (a : Nat) (rest : Str) (us : List Tk), Lx rest (a + (moT m 0).length) us → ∃ t ts, Lx (moT m 0 ++ rest) a (t :: ts ++ us) ∧ t.wd wMonitor ∧
  ∀ (a' : Int) (vs : List Tk), vs ≠ [] → Tl (ts ++ vs) → ∃ m' : Mo, m'.er = m.er ∧ (rd a' 0 (ts ++ vs)).mon = (m', rd a' 0 vs)
theorem mon_back {m : Mo} (h : MoIs m) : OB m := by
  intro a rest us g
  have e1 : moT m 0 = wMonitor ++ (32 :: (m.name ++ (32 :: ([123] ++ (10 :: (catG (fun v => vrT v 1) m.vars ++ (catG (fun f => mtT f 1) m.methods ++ ([125] ++ [10])))))))) := by
    unfold moT moH
    simp [wMonitor, ind]
  rw [e1] at g ⊢
  have u0 := Lx.blank (a := a + 8 + m.name.length + 3 + (catG (fun v => vrT v 1) m.vars).length + (catG (fun f => mtT f 1) m.methods).length + 1) bl10 (len_eq g (by simp [wMonitor]; omega))
  obtain ⟨u, u1, u2⟩ := put_sg' tk_rbr (no_two_of (by decide) (by decide)) (a := a + 8 + m.name.length + 3 + (catG (fun v => vrT v 1) m.vars).length + (catG (fun f => mtT f 1) m.methods).length) u0
  obtain ⟨fs, f1, fn, f2, f3⟩ := meths_back m.methods h.meths (a + 8 + m.name.length + 3 + (catG (fun v => vrT v 1) m.vars).length) _ _ u2
  obtain ⟨xs, x1, xn, x2⟩ := vars_back m.vars h.vars (a + 8 + m.name.length + 3) _ _ f1
  have x3 := Lx.blank (a := a + 8 + m.name.length + 2) bl10 x1
  obtain ⟨b, b1, b2⟩ := put_sg' tk_lbr (no_two_of (by decide) (by decide)) (a := a + 8 + m.name.length + 1) x3
  have b3 := Lx.blank (a := a + 8 + m.name.length) bl32 b2
  obtain ⟨n, n1, n2⟩ := put_name h.name (a := a + 8) (end32 _) b3
  have n3 := Lx.blank (a := a + 7) bl32 n2
  obtain ⟨t, t1, t2⟩ := put_wd kv_tok.2.2.1 (a := a) (end32 _) n3
  refine ⟨t, n :: b :: (xs ++ (fs ++ [u])), by simp only [List.append_assoc, List.cons_append, List.nil_append]; exact t2, t1, fun a' vs hv hl => ?_⟩
  have el : n :: b :: (xs ++ (fs ++ [u])) ++ vs = n :: b :: (xs ++ (fs ++ (u :: vs))) := by simp
  rw [el] at hl ⊢
  have hl1 := hl.tail (by simp)
  have hl2 := hl1.tail (by simp)
  have hl3 := hl2.drop (ts := xs) (by simp)
  have hnv : noW wVar (fs ++ (u :: vs)) := by
    cases fs with
    | nil => intro t ht; simp at ht; subst ht; exact sg_not u1 (by decide)
    | cons q fs => intro t ht; simp at ht; subst ht; exact wd_not (f2 q rfl) (by decide)
  have hnm : noW wMethod (u :: vs) := fun t ht => by simp at ht; subst ht; exact sg_not u1 (by decide)
  obtain ⟨l', p1, p2⟩ := x2 a' 1 [] ((xs ++ (fs ++ (u :: vs))).length + 1) (fs ++ (u :: vs)) (by simp; omega) (by simpa using h.vlen) (by simp) hnv
  obtain ⟨k', q1, q2⟩ := f3 a' [] ((fs ++ (u :: vs)).length + 1) (u :: vs) (by simp; omega) (by simpa using h.mlen) (by simp) hnm hl3
  have hvars : (rd a' 1 (xs ++ (fs ++ (u :: vs)))).vars = (l', rd a' 1 (fs ++ (u :: vs))) := p2
  have hmeths : (rd a' 1 (fs ++ (u :: vs))).meths = (k', rd a' 1 (u :: vs)) := q2
  refine ⟨⟨m.name, l', k', n.pl⟩, by unfold Mo.er; rw [p1, q1], ?_⟩
  unfold Rd.mon
  rw [rd_name a' 0 (by simp) n1]
  dsimp only
  rw [if_pos (is_yes b1), rd_enter a' b (by simp) (by decide)]
  unfold Rd.monB
  have e0 : rd a' (0 + 1) (xs ++ (fs ++ (u :: vs))) = rd a' 1 (xs ++ (fs ++ (u :: vs))) := rfl
  rw [e0, hvars]
  dsimp only
  rw [hmeths]
  dsimp only
  rw [rd_must a' 1 hv u1]
  have e2 : (rd a' 1 vs).leave = rd a' 0 vs := rd_leave a' 0 vs
  rw [e2]
/-! ### threads -/
structure RoIs (r : Ro) : Prop where
  name : isName r.name = true
  count : 0 ≤ r.count ∧ R64 r.count
  star : r.star = true → r.count = 0
  body : BB r.body 0
def TB (r : Ro) : Prop := ∀ (a : Nat) (rest : Str) (us : List Tk), Lx rest (a + (roT r 0).length) us → ∃ t ts, Lx (roT r 0 ++ rest) a (t :: ts ++ us) ∧ t.wd wThread ∧
  ∀ (a' : Int) (vs : List Tk), vs ≠ [] → Tl (ts ++ vs) → ∃ r' : Ro, r'.er = r.er ∧ (rd a' 0 (ts ++ vs)).role = (r', rd a' 0 vs)
theorem role_back {r : Ro} (h : RoIs r) : TB r := by
  intro a rest us g
  have hst := h.star
  have hct := h.count
  cases hs : r.star with
  | true =>
    have e1 : roT r 0 = wThread ++ (32 :: (r.name ++ (32 :: ([42] ++ (blkX r.body 0 ++ [10]))))) := by
      unfold roT
      rw [blockT_X, hs, if_pos rfl]
      simp [wThread, ind]
    rw [e1] at g ⊢
    have u0 := Lx.blank (a := a + 7 + r.name.length + 2 + (blkX r.body 0).length) bl10 (len_eq g (by simp [wThread]; omega))
    obtain ⟨bt, bs, b1, b2, b3⟩ := h.body (a + 7 + r.name.length + 2) (10 :: rest) us u0
    obtain ⟨c, c1, c2⟩ := put_sg tk_mul (a := a + 7 + r.name.length + 1) (.mk' nt32) b1
    have c3 := Lx.blank (a := a + 7 + r.name.length) bl32 c2
    obtain ⟨n, n1, n2⟩ := put_name h.name (a := a + 7) (end32 _) c3
    have n3 := Lx.blank (a := a + 6) bl32 n2
    obtain ⟨t, t1, t2⟩ := put_wd kv_tok.2.2.2.1 (a := a) (end32 _) n3
    refine ⟨t, n :: c :: bt :: bs, by simp only [List.append_assoc, List.cons_append, List.nil_append]; exact t2, t1, fun a' vs hv hl => ?_⟩
    have el : n :: c :: bt :: bs ++ vs = n :: c :: (bt :: bs ++ vs) := by simp
    rw [el] at hl ⊢
    obtain ⟨b', g1, g2⟩ := b3 a' vs hv ((hl.tail (by simp)).tail (by simp))
    refine ⟨⟨r.name, true, 0, b', n.pl⟩, by unfold Ro.er; rw [g1, hs, hst hs], ?_⟩
    unfold Rd.role
    rw [rd_name a' 0 (by simp) n1]
    dsimp only
    unfold Rd.cnt
    rw [rd_next, if_neg (sg_kind c1).2.1, rd_must a' 0 (by simp) c1]
    dsimp only
    have g2' : (rd a' 0 (bt :: bs ++ vs)).block = (b', rd a' 0 vs) := g2
    rw [g2']
  | false =>
    have e1 : roT r 0 = wThread ++ (32 :: (r.name ++ (32 :: (Lib.decDigits r.count.toNat ++ (blkX r.body 0 ++ [10]))))) := by
      unfold roT
      rw [blockT_X, hs, if_neg (by decide), itoa_nn hct.1]
      simp [wThread, ind]
    rw [e1] at g ⊢
    have u0 := Lx.blank (a := a + 7 + r.name.length + 1 + (Lib.decDigits r.count.toNat).length + (blkX r.body 0).length) bl10 (len_eq g (by simp [wThread]; omega))
    obtain ⟨bt, bs, b1, b2, b3⟩ := h.body (a + 7 + r.name.length + 1 + (Lib.decDigits r.count.toNat).length) (10 :: rest) us u0
    obtain ⟨c, c1, c2⟩ := put_num (n := r.count.toNat) (by have := hct.2.2; omega) (a := a + 7 + r.name.length + 1) (end32 _) b1
    have c3 := Lx.blank (a := a + 7 + r.name.length) bl32 c2
    obtain ⟨n, n1, n2⟩ := put_name h.name (a := a + 7) (end32 _) c3
    have n3 := Lx.blank (a := a + 6) bl32 n2
    obtain ⟨t, t1, t2⟩ := put_wd kv_tok.2.2.2.1 (a := a) (end32 _) n3
    refine ⟨t, n :: c :: bt :: bs, by simp only [List.append_assoc, List.cons_append, List.nil_append]; exact t2, t1, fun a' vs hv hl => ?_⟩
    have el : n :: c :: bt :: bs ++ vs = n :: c :: (bt :: bs ++ vs) := by simp
    rw [el] at hl ⊢
    obtain ⟨b', g1, g2⟩ := b3 a' vs hv ((hl.tail (by simp)).tail (by simp))
    refine ⟨⟨r.name, false, r.count, b', n.pl⟩, by unfold Ro.er; rw [g1, hs], ?_⟩
    unfold Rd.role
    rw [rd_name a' 0 (by simp) n1]
    dsimp only
    unfold Rd.cnt
    rw [rd_next, if_pos c1.1, rd_take a' 0 c (by simp)]
    dsimp only
    have g2' : (rd a' 0 (bt :: bs ++ vs)).block = (b', rd a' 0 vs) := g2
    rw [g2', c1.2]
    congr 2
    omega
/-! ### programs -/
theorem prog_mon {f : Nat} {l : List Mo} {k : List Ro} {a : Int} {t : Tk} {r : List Tk} (hr : r ≠ []) (ht : t.wd wMonitor) (hl : l.length < 8) : progF (f + 1) l k (rd a 0 (t :: r)) = progF f (l ++ [(rd a 0 r).mon.1]) k (rd a 0 r).mon.2 := by
  rw [progF, if_pos ⟨rfl, by rw [rd_next, ht.1]; decide⟩, if_pos (is_yes ht.sg), room_ok (by omega), rd_take a 0 t hr]
theorem prog_role {f : Nat} {l : List Mo} {k : List Ro} {a : Int} {t : Tk} {r : List Tk} (hr : r ≠ []) (ht : t.wd wThread) (hl : k.length < 8) : progF (f + 1) l k (rd a 0 (t :: r)) = progF f l (k ++ [(rd a 0 r).role.1]) (rd a 0 r).role.2 := by
  rw [progF, if_pos ⟨rfl, by rw [rd_next, ht.1]; decide⟩, if_neg (is_not (wd_not ht (by decide))), if_pos (is_yes ht.sg), room_ok (by omega), rd_take a 0 t hr]
theorem mons_back : ∀ (l : List Mo), (∀ m ∈ l, OB m) → ∀ (a : Nat) (rest : Str) (us : List Tk), Lx rest (a + (catG (fun m => moT m 0) l).length) us → ∃ ts, Lx (catG (fun m => moT m 0) l ++ rest) a (ts ++ us) ∧ l.length ≤ ts.length ∧
    ∀ (a' : Int) (acc : List Mo) (k : List Ro) (f : Nat) (vs : List Tk), acc.length + l.length ≤ 8 → vs ≠ [] → Tl (ts ++ vs) → ∃ l' : List Mo, l'.map Mo.er = l.map Mo.er ∧ progF (f + l.length) acc k (rd a' 0 (ts ++ vs)) = progF f (acc ++ l') k (rd a' 0 vs)
  | [], _, a, rest, us, g => ⟨[], by simpa [catG] using g, Nat.le_refl _, fun a' acc k f vs _ hv _ => ⟨[], rfl, by simp⟩⟩
  | m :: r, h, a, rest, us, g => by
    rw [catG] at g ⊢
    obtain ⟨ts2, k1, kn, k2⟩ := mons_back r (fun c hc => h c (List.mem_cons_of_mem _ hc)) (a + (moT m 0).length) rest us (len_eq g (by rw [List.length_append]; omega))
    obtain ⟨t, ts1, m1, m2, m3⟩ := h m (by simp) a (catG (fun m => moT m 0) r ++ rest) (ts2 ++ us) k1
    refine ⟨t :: ts1 ++ ts2, by simp only [List.append_assoc, List.cons_append, List.nil_append]; exact m1, by simp; omega, fun a' acc k f vs hacc hv hl => ?_⟩
    have el : t :: ts1 ++ ts2 ++ vs = t :: (ts1 ++ (ts2 ++ vs)) := by simp
    rw [el] at hl ⊢
    have hne : ts2 ++ vs ≠ [] := by simp [hv]
    have hl1 := hl.tail (by simp [hv])
    have hacc' : acc.length + (r.length + 1) ≤ 8 := hacc
    obtain ⟨v', e1, e2⟩ := m3 a' (ts2 ++ vs) hne hl1
    obtain ⟨l', f1, f2⟩ := k2 a' (acc ++ [v']) k f vs (by simp; omega) hv (hl1.drop hne)
    refine ⟨v' :: l', by rw [List.map_cons, List.map_cons, e1, f1], ?_⟩
    rw [show f + (m :: r).length = (f + r.length) + 1 by simp; omega, prog_mon (by simp [hv]) m2 (by omega), e2]
    dsimp only
    rw [f2]; simp
theorem roles_back : ∀ (l : List Ro), (∀ m ∈ l, TB m) → ∀ (a : Nat) (rest : Str) (us : List Tk), Lx rest (a + (catG (fun m => roT m 0) l).length) us → ∃ ts, Lx (catG (fun m => roT m 0) l ++ rest) a (ts ++ us) ∧ l.length ≤ ts.length ∧
    ∀ (a' : Int) (acc : List Mo) (k : List Ro) (f : Nat) (vs : List Tk), k.length + l.length ≤ 8 → vs ≠ [] → Tl (ts ++ vs) → ∃ l' : List Ro, l'.map Ro.er = l.map Ro.er ∧ progF (f + l.length) acc k (rd a' 0 (ts ++ vs)) = progF f acc (k ++ l') (rd a' 0 vs)
  | [], _, a, rest, us, g => ⟨[], by simpa [catG] using g, Nat.le_refl _, fun a' acc k f vs _ hv _ => ⟨[], rfl, by simp⟩⟩
  | m :: r, h, a, rest, us, g => by
    rw [catG] at g ⊢
    obtain ⟨ts2, k1, kn, k2⟩ := roles_back r (fun c hc => h c (List.mem_cons_of_mem _ hc)) (a + (roT m 0).length) rest us (len_eq g (by rw [List.length_append]; omega))
    obtain ⟨t, ts1, m1, m2, m3⟩ := h m (by simp) a (catG (fun m => roT m 0) r ++ rest) (ts2 ++ us) k1
    refine ⟨t :: ts1 ++ ts2, by simp only [List.append_assoc, List.cons_append, List.nil_append]; exact m1, by simp; omega, fun a' acc k f vs hacc hv hl => ?_⟩
    have el : t :: ts1 ++ ts2 ++ vs = t :: (ts1 ++ (ts2 ++ vs)) := by simp
    rw [el] at hl ⊢
    have hne : ts2 ++ vs ≠ [] := by simp [hv]
    have hl1 := hl.tail (by simp [hv])
    have hacc' : k.length + (r.length + 1) ≤ 8 := hacc
    obtain ⟨v', e1, e2⟩ := m3 a' (ts2 ++ vs) hne hl1
    obtain ⟨l', f1, f2⟩ := k2 a' acc (k ++ [v']) f vs (by simp; omega) hv (hl1.drop hne)
    refine ⟨v' :: l', by rw [List.map_cons, List.map_cons, e1, f1], ?_⟩
    rw [show f + (m :: r).length = (f + r.length) + 1 by simp; omega, prog_role (by simp [hv]) m2 (by omega), e2]
    dsimp only
    rw [f2]; simp
/-- A program that is right, its numbers those of a machine. -/
structure PgK (p : Pg) : Prop where
  ok : p.ok = true
  vars : ∀ m ∈ p.mons, ∀ v ∈ m.vars, VrP v
  meths : ∀ m ∈ p.mons, ∀ f ∈ m.methods, ∀ y ∈ f.body, StK y
  roles : ∀ r ∈ p.roles, R64 r.count ∧ ∀ y ∈ r.body, StK y
theorem nsMts_le : ∀ {l : List Mt} {n : Int}, nsMts l n ≤ 64 → n ≤ 64 ∧ ∀ f ∈ l, St.nsL f.body 2 2 ≤ 64
  | [], n, h => by rw [nsMts] at h; exact ⟨h, by simp⟩
  | a :: r, n, h => by
    rw [nsMts] at h
    obtain ⟨h1, h2⟩ := nsMts_le h
    refine ⟨by omega, fun f hf => ?_⟩
    rcases List.mem_cons.1 hf with rfl | hf
    · omega
    · exact h2 f hf
theorem nsMos_le : ∀ {l : List Mo} {n : Int}, nsMos l n ≤ 64 → n ≤ 64 ∧ ∀ m ∈ l, ∀ f ∈ m.methods, St.nsL f.body 2 2 ≤ 64
  | [], n, h => by rw [nsMos] at h; exact ⟨h, by simp⟩
  | a :: r, n, h => by
    rw [nsMos] at h
    obtain ⟨h1, h2⟩ := nsMos_le h
    obtain ⟨h3, h4⟩ := nsMts_le h1
    refine ⟨by omega, fun m hm => ?_⟩
    rcases List.mem_cons.1 hm with rfl | hm
    · exact h4
    · exact h2 m hm
theorem nsRos_le : ∀ {l : List Ro} {n : Int}, nsRos l n ≤ 64 → n ≤ 64 ∧ ∀ r ∈ l, St.nsL r.body 1 1 ≤ 64
  | [], n, h => by rw [nsRos] at h; exact ⟨h, by simp⟩
  | a :: r, n, h => by
    rw [nsRos] at h
    obtain ⟨h1, h2⟩ := nsRos_le h
    refine ⟨by omega, fun f hf => ?_⟩
    rcases List.mem_cons.1 hf with rfl | hf
    · omega
    · exact h2 f hf
theorem body_back {l : List St} {o : Nat} (hK : ∀ y ∈ l, StK y) (hd : St.nsL l ((o : Int) + 1) ((o : Int) + 1) ≤ 64) : BB l o := by
  obtain ⟨g1, g2⟩ := nsL_le hd
  refine LB.block (by omega) (LB.all (by omega) fun z hz => ?_)
  obtain ⟨n', hn'⟩ := g2 z hz
  exact stmt_back _ z (o + 1) n' (Nat.le_refl _) (hK z hz) hn' (by omega)
/-- A program's text, parsed. -/
theorem prog_back (p : Pg) (h : PgK p) (hd : nestPg p ≤ 64) (hl : (textS p).length ≤ 20000) : ∃ q : Pg, parseS (textS p) = (q, 0, 0) ∧ q.er = p.er := by
  have hok := h.ok
  unfold nestPg checkP at hd
  rw [hok] at hd
  have hd : nsRos p.roles (nsMos p.mons 0) ≤ 64 := hd
  obtain ⟨d1, d2⟩ := nsRos_le hd
  obtain ⟨_, d3⟩ := nsMos_le d1
  unfold Pg.ok at hok
  simp only [Bool.and_eq_true, decide_eq_true_eq, List.all_eq_true] at hok
  obtain ⟨⟨⟨o1, o2⟩, o3⟩, o4⟩ := hok
  have hM : ∀ m ∈ p.mons, OB m := fun m hm => by
    have hmo := o3 m hm
    unfold Mo.ok at hmo
    simp only [Bool.and_eq_true, decide_eq_true_eq, List.all_eq_true] at hmo
    obtain ⟨⟨⟨⟨k1, k2⟩, k3⟩, k4⟩, k5⟩ := hmo
    refine mon_back ⟨k1, k2, k3, fun v hv => var_back (vr_is (k4 v hv) (h.vars m hm v hv)), fun f hf => ?_⟩
    have hmt := k5 f hf
    unfold Mt.ok at hmt
    rw [Bool.and_eq_true] at hmt
    exact meth_back hmt.1 (body_back (h.meths m hm f hf) (d3 m hm f hf))
  have hR : ∀ r ∈ p.roles, TB r := fun r hr => by
    have hro := o4 r hr
    unfold Ro.ok at hro
    simp only [Bool.and_eq_true, decide_eq_true_eq, Bool.not_eq_true', Bool.and_eq_false_iff, bne_eq_false_iff_eq] at hro
    obtain ⟨⟨⟨k1, k2⟩, k3⟩, k4⟩ := hro
    refine role_back ⟨k1, ⟨k2, (h.roles r hr).1⟩, fun hs => ?_, body_back (h.roles r hr).2 (d2 r hr)⟩
    rcases k3 with k3 | k3
    · rw [hs] at k3; cases k3
    · exact k3
  obtain ⟨rs, r1, rn, r2⟩ := roles_back p.roles hR (0 + (catG (fun m => moT m 0) p.mons).length) [] [] (.nil _)
  obtain ⟨ms, m1, mn, m2⟩ := mons_back p.mons hM 0 _ _ r1
  rw [List.append_nil, List.append_nil] at m1
  have hLx : Lx (textS p) 0 (ms ++ rs) := m1
  have hs := hLx.all hl
  have hk := scanS_ok (s := textS p) (by rw [hs])
  rw [hs] at hk
  have e1 : ms ++ rs ++ [endT (textS p)] = ms ++ (rs ++ [endT (textS p)]) := by simp
  have hT : Tl (ms ++ (rs ++ [endT (textS p)])) := ⟨⟨ms ++ rs, endT (textS p), by simp, rfl⟩, by have := hk.len; rw [← e1]; exact this⟩
  have hlen : p.mons.length + p.roles.length ≤ (ms ++ (rs ++ [endT (textS p)])).length := by simp; omega
  obtain ⟨f, hf⟩ : ∃ f, (ms ++ (rs ++ [endT (textS p)])).length + 1 = (f + 1 + p.roles.length) + p.mons.length := ⟨(ms ++ (rs ++ [endT (textS p)])).length - p.mons.length - p.roles.length, by omega⟩
  obtain ⟨l', f1, f2⟩ := m2 0 [] [] (f + 1 + p.roles.length) (rs ++ [endT (textS p)]) (by simpa using o1) (by simp) hT
  obtain ⟨k', g1, g2⟩ := r2 0 ([] ++ l') [] (f + 1) [endT (textS p)] (by simpa using o2) (by simp) (hT.drop (by simp))
  have hend : progF (f + 1) ([] ++ l') ([] ++ k') (rd 0 0 [endT (textS p)]) = (([] ++ l', [] ++ k'), rd 0 0 [endT (textS p)]) := by
    rw [progF, if_neg (fun h => h.2 rfl)]
  have hprog : (Rd.mk 0 0 (ms ++ rs ++ [endT (textS p)]) 0).prog = ((l', k'), rd 0 0 [endT (textS p)]) := by
    rw [e1]
    show progF ((ms ++ (rs ++ [endT (textS p)])).length + 1) [] [] (rd 0 0 (ms ++ (rs ++ [endT (textS p)]))) = _
    rw [hf, f2, g2, hend]; simp
  refine ⟨⟨l', k'⟩, ?_, by unfold Pg.er; rw [f1, g1]⟩
  unfold parseS
  rw [hs]
  dsimp only
  rw [if_pos rfl, hprog, if_pos rfl]
end Go.Proofs.YtmflfcbebeikcaaGreatDoor.Q
