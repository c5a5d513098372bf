/- The reference's scanner; whether a program is derived. No condition. -/
import Derived.Test.YtmflfcbebeikcaaGreatMH
import Derived.Test.YtmflfcbebeikcaaGreatME
import Derived.KernelRfl
import Derived.Test.YtmflfcbebeikcaaGreatMF
import Derived.Test.YtmflfcbebeikcaaGreatMG
set_option linter.unusedVariables false
set_option linter.unusedSectionVars false
set_option linter.unnecessarySimpa false
set_option linter.unusedSimpArgs false
set_option maxRecDepth 100000
set_option maxHeartbeats 4000000
namespace Go.Proofs.YtmflfcbebeikcaaGreat.Q
open Go.RowKit
variable [Amb]
theorem idxF_snoc {α : Type} (p : α → Bool) {t : α} (ht : p t = true) : ∀ (b : List α) (k : Nat), (∀ x ∈ b, p x = false) → idxF p k (b ++ [t]) = (k : Int) + b.length
  | [], k, _ => by simp [idxF, ht]
  | a :: r, k, h => by
    rw [List.cons_append, idxF, if_neg (by rw [h a List.mem_cons_self]; simp), idxF_snoc p ht r (k + 1) fun x hx => h x (List.mem_cons_of_mem _ hx)]
    simp; omega
theorem idxF_no {α : Type} (p : α → Bool) : ∀ (b : List α) (k : Nat), (∀ x ∈ b, p x = false) → idxF p k b = -1
  | [], k, _ => rfl
  | a :: r, k, h => by
    rw [idxF, if_neg (by rw [h a List.mem_cons_self]; simp), idxF_no p r (k + 1) fun x hx => h x (List.mem_cons_of_mem _ hx)]
theorem idxF_last {α : Type} (p : α → Bool) : ∀ (l : List α) (k : Nat), idxF p k l ≥ 0 → idxF p k l = (k : Int) + l.length - 1 → ∃ b t, l = b ++ [t] ∧ p t = true ∧ ∀ x ∈ b, p x = false
  | [], k, h, _ => by simp [idxF] at h
  | a :: r, k, h0, h => by
    rw [idxF] at h0 h
    by_cases ha : p a = true
    · rw [if_pos ha] at h
      have : r = [] := List.length_eq_zero_iff.1 (by simp at h; omega)
      subst this
      exact ⟨[], a, rfl, ha, by simp⟩
    · rw [if_neg ha] at h0 h
      obtain ⟨b, t, e, h1, h2⟩ := idxF_last p r (k + 1) h0 (by simp at h ⊢; omega)
      refine ⟨a :: b, t, by rw [e]; rfl, h1, fun x hx => ?_⟩
      rcases List.mem_cons.1 hx with rfl | hx
      · simpa using ha
      · exact h2 x hx
theorem endedS_iff {l : List Tk} : endedS l = true ↔ ∃ b t, l = b ++ [t] ∧ isEnd t = true ∧ ∀ x ∈ b, isEnd x = false := by
  unfold endedS
  simp only [Bool.and_eq_true, decide_eq_true_eq, beq_iff_eq]
  constructor
  · rintro ⟨h1, h2⟩; exact idxF_last isEnd l 0 h1 (by simpa using h2)
  · rintro ⟨b, t, rfl, h1, h2⟩
    rw [idxF_snoc isEnd h1 b 0 h2]
    simp
theorem derivesX_iff {l : List Tk} {e : Ex} : derivesXS l e = true ↔ ∃ b t d, l = b ++ [t] ∧ isEnd t = true ∧ (∀ x ∈ b, isEnd x = false) ∧ checkS e = 0 ∧ DE 1 b e d := by
  unfold derivesXS
  simp only [Bool.and_eq_true, beq_iff_eq]
  rw [endedS_iff]
  have key : ∀ (b : List Tk) (t : Tk), checkS e = 0 → (derivesE (b ++ [t]) e = true ↔ ∃ d, DE 1 b e d) := by
    intro b t hc
    have hs := spec_E (b ++ [t]) _ e (Nat.le_refl _) (checkS_good hc) 1 (Nat.le_refl 1) 0 (((b ++ [t]).length : Int) - 1)
    unfold derivesE freeF
    rw [decide_eq_true_iff, mem_atS]
    constructor
    · rintro ⟨i, hi, h⟩
      have hi : i = 0 := by simpa using hi
      subst hi
      obtain ⟨ts, h1, ⟨d, h2⟩, h3⟩ := hs.1 h
      rw [List.drop_zero] at h1
      have hl : ts.length = b.length := by simp at h3; omega
      have : ts = b := by
        rw [List.prefix_iff_eq_take.1 h1, hl, List.take_left]
      rw [this] at h2
      exact ⟨d, h2⟩
    · rintro ⟨d, h⟩
      exact ⟨0, by simp, hs.2 ⟨b, by rw [List.drop_zero]; exact List.prefix_append _ _, ⟨d, h⟩, by simp⟩⟩
  constructor
  · rintro ⟨⟨⟨b, t, rfl, h1, h2⟩, hc⟩, h⟩
    obtain ⟨d, h⟩ := (key b t hc).1 h
    exact ⟨b, t, d, rfl, h1, h2, hc, h⟩
  · rintro ⟨b, t, d, rfl, h1, h2, hc, h⟩
    exact ⟨⟨⟨b, t, rfl, h1, h2⟩, hc⟩, (key b t hc).2 ⟨d, h⟩⟩
/-! ### parentheses are balanced -/
def opens (ts : List Tk) : Int := ts.countP (isS [40])
def shuts (ts : List Tk) : Int := ts.countP (isS [41])
def bal (ts : List Tk) : Int := opens ts - shuts ts
theorem bal_app (a b : List Tk) : bal (a ++ b) = bal a + bal b := by
  unfold bal opens shuts
  rw [List.countP_append, List.countP_append]
  omega
theorem bal_cons (t : Tk) (b : List Tk) : bal (t :: b) = bal [t] + bal b := bal_app [t] b
theorem isS_ne {t : Tk} {s u : Str} (h : t.sg s) (hne : s ≠ u) : isS u t = false := by
  cases hb : isS u t with
  | false => rfl
  | true => exact absurd (h.2.symm.trans (isS_sg.1 hb).2) hne
theorem bal_sg {t : Tk} {s : Str} (h : t.sg s) (h1 : s ≠ [40]) (h2 : s ≠ [41]) : bal [t] = 0 := by
  unfold bal opens shuts
  simp [isS_ne h h1, isS_ne h h2]
theorem bal_kind {t : Tk} (h : t.kind = 1 ∨ t.kind = 2) : bal [t] = 0 := by
  have : ∀ u, isS u t = false := fun u => by
    cases hb : isS u t with
    | false => rfl
    | true => have := (isS_sg.1 hb).1; omega
  unfold bal opens shuts
  simp [this]
theorem bal_open {t : Tk} (h : t.sg [40]) : bal [t] = 1 := by
  unfold bal opens shuts
  simp [isS_ne h (show ([40] : Str) ≠ [41] by decide), isS_sg.2 h]
theorem bal_shut {t : Tk} (h : t.sg [41]) : bal [t] = -1 := by
  unfold bal opens shuts
  simp [isS_ne h (show ([41] : Str) ≠ [40] by decide), isS_sg.2 h]
theorem DE.bal {L : Nat} {ts : List Tk} {e : Ex} {d : Nat} (h : DE L ts e d) : Q.bal ts = 0 := by
  have z : Q.bal [] = 0 := rfl
  induction h with
  | par ht h hu ih => rw [bal_cons, bal_app, ih, bal_open ht, bal_shut hu]; rfl
  | num ht => exact bal_kind (.inr ht.1)
  | tru ht => exact bal_sg ht (by decide) (by decide)
  | fls ht => exact bal_sg ht (by decide) (by decide)
  | @var _ t u v _ _ _ ht hu hv => rw [bal_cons t [u, v], bal_cons u [v], bal_kind (.inl ht.1), bal_sg hu (by decide) (by decide), bal_kind (.inl hv.1)]; rfl
  | neg ht h ih => rw [bal_cons, bal_sg ht (by decide) (by decide), ih]; rfl
  | @mul _ t u ts _ _ _ _ ht hu h ih => rw [bal_cons t (u :: ts), bal_cons u ts, bal_kind (.inr ht.1), bal_sg hu (by decide) (by decide), ih]; rfl
  | not hL ht h ih => rw [bal_cons, bal_sg ht (by decide) (by decide), ih]; rfl
  | bin hr hL h1 ht h2 i1 i2 =>
    have hs : ∀ {op : Int} {rl l r : Nat} {s : Str}, (op, rl, s, l, r) ∈ rules → s ≠ [40] ∧ s ≠ [41] := by
      intro op rl l r s h
      simp only [rules, List.mem_cons, Prod.mk.injEq, List.not_mem_nil, or_false] at h
      rcases h with h | h | h | h | h | h | h | h | h | h <;> (obtain ⟨_, _, rfl, _, _⟩ := h; decide)
    obtain ⟨s1, s2⟩ := hs hr
    rw [bal_app, bal_cons, i1, i2, bal_sg ht s1 s2]; rfl
/-! ### the law -/
def tkS (s : Str) : Tk := ⟨4, s, 0, 0⟩
theorem parens_law {l : List Tk} {e : Ex} (h : derivesXS l e = true) : ∃ b t, l = b ++ [t] ∧ derivesXS (tkS [40] :: (b ++ [tkS [41]]) ++ [t]) e = true ∧ derivesXS (tkS [40] :: b ++ [t]) e = false ∧ derivesXS b e = false := by
  obtain ⟨b, t, d, rfl, h1, h2, hc, hd⟩ := derivesX_iff.1 h
  have ho : (tkS [40]).sg [40] := ⟨.inr rfl, rfl⟩
  have hs : (tkS [41]).sg [41] := ⟨.inr rfl, rfl⟩
  refine ⟨b, t, rfl, ?_, ?_, ?_⟩
  · refine derivesX_iff.2 ⟨tkS [40] :: (b ++ [tkS [41]]), t, d + 1, rfl, h1, fun x hx => ?_, hc, .par ho hd hs⟩
    simp only [List.mem_cons, List.mem_append, List.not_mem_nil, or_false] at hx
    rcases hx with rfl | hx | rfl
    · rfl
    · exact h2 x hx
    · rfl
  · cases hb : derivesXS (tkS [40] :: b ++ [t]) e with
    | false => rfl
    | true =>
      obtain ⟨b', t', d', he, _, _, _, hd'⟩ := derivesX_iff.1 hb
      obtain ⟨e1, _⟩ := List.append_inj' he rfl
      subst e1
      have := hd'.bal
      rw [bal_cons, bal_open ho, hd.bal] at this
      cases this
  · cases hb : derivesXS b e with
    | false => rfl
    | true =>
      obtain ⟨b', t', d', he, ht', _⟩ := derivesX_iff.1 hb
      have := h2 t' (by rw [he]; simp)
      rw [ht'] at this; cases this
end Go.Proofs.YtmflfcbebeikcaaGreat.Q

namespace Go.Proofs.YtmflfcbebeikcaaGreat.Q
open Go.RowKit
variable [Amb]

def spanN (p : Int → Bool) : Str → Nat
  | [] => 0
  | b :: r => if p b.toNat = true then spanN p r + 1 else 0
theorem spanF_N (p : Int → Bool) : ∀ (l : Str) (k : Nat), spanF p k l = k + spanN p l
  | [], k => rfl
  | b :: r, k => by
    rw [spanF, spanN]
    split
    · rw [spanF_N p r (k + 1)]; omega
    · rfl
theorem spanN_le (p : Int → Bool) : ∀ l : Str, spanN p l ≤ l.length
  | [] => Nat.le_refl _
  | b :: r => by rw [spanN]; split <;> simp; exact spanN_le p r
theorem spanN_take (p : Int → Bool) : ∀ l : Str, spanN p (l.take (spanN p l)) = spanN p l
  | [] => rfl
  | b :: r => by
    rw [spanN]
    split
    · rename_i h; rw [List.take_succ_cons, spanN, if_pos h, spanN_take p r]
    · rfl
/-- The next byte is not of the kind. -/
def noHd (p : Int → Bool) (l : Str) : Prop := ∀ b ∈ l.head?, p b.toNat = false
theorem spanN_app (p : Int → Bool) : ∀ (x rest : Str), spanN p x = x.length → noHd p rest → spanN p (x ++ rest) = x.length
  | [], rest, _, h => by
    cases rest with
    | nil => rfl
    | cons b r => rw [List.nil_append, spanN, h b rfl]; rfl
  | b :: x, rest, h1, h => by
    rw [spanN] at h1
    split at h1
    · rename_i hb
      rw [List.cons_append, spanN, if_pos hb, spanN_app p x rest (by simpa using h1) h]; rfl
    · simp at h1
/-- A step of the scanner: an error or 0, how many bytes, which token (its kind, its number). -/
def stepT (w : Str) : Int × Nat × Option (Int × Int) :=
  if classS (w.headD 0).toNat = 1 then (0, 1, none) else if classS (w.headD 0).toNat = 2 then (0, spanN notNl w, none)
  else if classS (w.headD 0).toNat = 3 then (if spanN inNameS w > 32 then (12, 0, none) else if isWord (w.take (spanN inNameS w)) = true then (0, spanN inNameS w, some (3, 0)) else (0, spanN inNameS w, some (1, 0)))
  else if classS (w.headD 0).toNat = 4 then (if w.headD 0 = 48 ∧ spanN isDig w > 1 then (11, 0, none) else match digS 0 (w.take (spanN isDig w)) with
    | some v => (0, spanN isDig w, some (2, v))
    | none => (11, 0, none))
  else if classS (w.headD 0).toNat = 5 then (if (twos.any fun t => t.isPrefixOf w) = true then (0, 2, some (4, 0)) else if w.headD 0 = 38 ∨ w.headD 0 = 124 then (10, 0, none) else (0, 1, some (4, 0)))
  else (10, 0, none)
def putT (w : Str) (a : Nat) (l : List Tk) (q : Int × Nat × Option (Int × Int)) : LexR := (q.1, a + q.2.1, match q.2.2 with
  | some kv => l ++ [⟨kv.1, w.take q.2.1, kv.2, a⟩]
  | none => l)
theorem cut_drop (s : Str) (a n : Nat) : cut s a (a + n) = (s.drop a).take n := by unfold cut; rw [List.drop_take]; congr 1; omega
theorem nextS_T (s : Str) (a : Nat) (l : List Tk) : nextS s a l = putT (s.drop a) a l (stepT (s.drop a)) := by
  unfold nextS stepT
  dsimp only
  split
  · rfl
  split
  · rw [spanF_N]; rfl
  split
  · unfold nameS
    dsimp only
    rw [spanF_N, cut_drop, Nat.add_sub_cancel_left]
    split
    · rfl
    · split <;> rfl
  split
  · unfold numberS
    dsimp only
    rw [spanF_N, cut_drop]
    have e : (a + spanN isDig (s.drop a) > a + 1) ↔ (spanN isDig (s.drop a) > 1) := by simp
    by_cases hz : (s.drop a).headD 0 = 48 ∧ spanN isDig (s.drop a) > 1
    · rw [if_pos ⟨hz.1, e.2 hz.2⟩, if_pos hz]; rfl
    · rw [if_neg (fun h => hz ⟨h.1, e.1 h.2⟩), if_neg hz]
      cases digS 0 (List.take (spanN isDig (List.drop a s)) (List.drop a s)) <;> rfl
  split
  · unfold signS
    rw [cut_drop, cut_drop]
    split
    · rfl
    · split <;> rfl
  · rfl
/-- What is left of a text, its place, its tokens (but for the end). -/
inductive Lx : Str → Nat → List Tk → Prop
  | nil (a : Nat) : Lx [] a []
  | skip {w : Str} {a n : Nat} {ts : List Tk} (hw : w ≠ []) (h : stepT w = (0, n, none)) (k : Lx (w.drop n) (a + n) ts) : Lx w a ts
  | tok {w : Str} {a n : Nat} {k v : Int} {ts : List Tk} (hw : w ≠ []) (h : stepT w = (0, n, some (k, v))) (g : Lx (w.drop n) (a + n) ts) : Lx w a (⟨k, w.take n, v, a⟩ :: ts)
def endT (s : Str) : Tk := ⟨5, [], 0, s.length⟩
theorem Lx.scan {s w : Str} {a : Nat} {ts : List Tk} (h : Lx w a ts) : w = s.drop a → ∀ (f : Nat) (l : List Tk), a ≤ s.length → s.length - a < f → scanF s f a l = (l ++ ts ++ [endT s], 0, 0) := by
  induction h with
  | nil a =>
    intro e f l ha hf
    have hl : s.length ≤ a := by have := congrArg List.length e; simp at this; omega
    cases f with
    | zero => omega
    | succ f => rw [scanF, if_neg (by omega), List.append_nil]; rfl
  | @skip w a n ts hw h g ih =>
    intro e f l ha hf
    subst e
    have hlt : a < s.length := by
      rcases Nat.lt_or_ge a s.length with h1 | h1
      · exact h1
      · exact absurd (List.drop_of_length_le h1) hw
    have hn := nextS_T s a l
    rw [h] at hn
    have h0 : (nextS s a l).1 = 0 := by rw [hn]; rfl
    obtain ⟨g1, g2, _⟩ := next_ok hlt h0
    cases f with
    | zero => omega
    | succ f =>
      rw [scanF, if_pos hlt, if_pos h0]
      rw [hn] at g1 g2 ⊢
      dsimp only [putT] at g1 g2 ⊢
      rw [ih (by rw [List.drop_drop]) f l g2 (by omega)]
  | @tok w a n k v ts hw h g ih =>
    intro e f l ha hf
    subst e
    have hlt : a < s.length := by
      rcases Nat.lt_or_ge a s.length with h1 | h1
      · exact h1
      · exact absurd (List.drop_of_length_le h1) hw
    have hn := nextS_T s a l
    rw [h] at hn
    have h0 : (nextS s a l).1 = 0 := by rw [hn]; rfl
    obtain ⟨g1, g2, _⟩ := next_ok hlt h0
    cases f with
    | zero => omega
    | succ f =>
      rw [scanF, if_pos hlt, if_pos h0]
      rw [hn] at g1 g2 ⊢
      dsimp only [putT] at g1 g2 ⊢
      rw [ih (by rw [List.drop_drop]) f _ g2 (by omega)]
      simp
theorem Lx.all {s : Str} {ts : List Tk} (h : Lx s 0 ts) (hs : s.length ≤ 20000) : scanS s = (ts ++ [endT s], 0, 0) := by
  unfold scanS
  rw [if_neg (by omega), h.scan rfl (s.length + 1) [] (Nat.zero_le _) (by omega)]; rfl
theorem scanF_Lx (s : Str) : ∀ (f a : Nat) (l : List Tk), a ≤ s.length → s.length - a < f → (scanF s f a l).2.1 = 0 → ∃ ts, Lx (s.drop a) a ts ∧ scanF s f a l = (l ++ ts ++ [endT s], 0, 0)
  | 0, a, l, _, h, _ => by omega
  | f + 1, a, l, ha, hf, h => by
    rw [scanF] at h ⊢
    by_cases hlt : a < s.length
    · rw [if_pos hlt] at h ⊢
      by_cases h0 : (nextS s a l).1 = 0
      · rw [if_pos h0] at h ⊢
        obtain ⟨g1, g2, _⟩ := next_ok hlt h0
        obtain ⟨ts, k1, k2⟩ := scanF_Lx s f _ _ g2 (by omega) h
        have hw : s.drop a ≠ [] := by intro e; have := congrArg List.length e; simp at this; omega
        have hn := nextS_T s a l
        rw [hn] at h0 k1 k2 g1 ⊢
        generalize hq : stepT (s.drop a) = q at h0 k1 k2 g1 ⊢
        obtain ⟨e, n, o⟩ := q
        dsimp only [putT] at h0 k1 k2 g1 ⊢
        subst h0
        cases o with
        | none => exact ⟨ts, .skip hw hq (by rw [List.drop_drop]; exact k1), k2⟩
        | some kv =>
          obtain ⟨k, v⟩ := kv
          exact ⟨_, .tok hw hq (by rw [List.drop_drop]; exact k1), by rw [k2]; simp⟩
      · rw [if_neg h0] at h; exact absurd h h0
    · rw [if_neg hlt]
      refine ⟨[], ?_, by simp [endT]⟩
      rw [List.drop_of_length_le (by omega)]; exact .nil a
theorem scanS_Lx {s : Str} (h : (scanS s).2.1 = 0) : s.length ≤ 20000 ∧ ∃ ts, Lx s 0 ts ∧ scanS s = (ts ++ [endT s], 0, 0) := by
  unfold scanS at h ⊢
  by_cases hs : s.length > 20000
  · rw [if_pos hs] at h; exact absurd h (by decide)
  · rw [if_neg hs] at h ⊢
    obtain ⟨ts, h1, h2⟩ := scanF_Lx s (s.length + 1) 0 [] (Nat.zero_le _) (by omega) h
    exact ⟨by omega, ts, h1, by rw [h2]; rfl⟩
/-! ### single tokens -/
/-- A text that is one token. -/
def isTok (k : Int) (x : Str) (v : Int) : Prop := x ≠ [] ∧ stepT x = (0, x.length, some (k, v))
/-- What may stand behind a token. -/
def fol (k : Int) (x rest : Str) : Prop := ∀ b ∈ rest.head?, (k = 1 ∨ k = 3 → inNameS b.toNat = false) ∧ (k = 2 → isDig b.toNat = false) ∧ (k = 4 → x.length = 1 → x ++ [b] ∉ twos)
theorem twos_two {t : Str} (h : t ∈ twos) : ∃ b c, t = [b, c] := by
  simp only [twos, List.mem_cons, List.not_mem_nil, or_false] at h
  rcases h with rfl | rfl | rfl | rfl | rfl | rfl | rfl <;> exact ⟨_, _, rfl⟩
theorem prefix_app {t x rest : Str} (h : t.isPrefixOf x = true) : t.isPrefixOf (x ++ rest) = true := by
  rw [List.isPrefixOf_iff_prefix] at h ⊢
  exact h.trans (List.prefix_append x rest)
theorem isTok.app {k : Int} {x : Str} {v : Int} (h : isTok k x v) {rest : Str} (hf : fol k x rest) : stepT (x ++ rest) = (0, x.length, some (k, v)) := by
  obtain ⟨hx, h⟩ := h
  cases x with
  | nil => exact absurd rfl hx
  | cons b x =>
  unfold stepT at h ⊢
  rw [List.headD_cons] at h
  rw [List.cons_append, List.headD_cons, ← List.cons_append]
  generalize classS ((b.toNat : Nat) : Int) = c at h ⊢
  by_cases h1 : c = 1
  · rw [if_pos h1] at h; exact absurd (congrArg (fun q => q.2.2) h) (by simp)
  rw [if_neg h1] at h ⊢
  by_cases h2 : c = 2
  · rw [if_pos h2] at h; exact absurd (congrArg (fun q => q.2.2) h) (by simp)
  rw [if_neg h2] at h ⊢
  by_cases h3 : c = 3
  · rw [if_pos h3] at h ⊢
    have key : spanN inNameS (b :: x) = (b :: x).length ∧ (k = 1 ∨ k = 3) := by
      split at h
      · exact absurd (congrArg Prod.fst h) (by simp)
      · split at h
        · exact ⟨congrArg (fun q => q.2.1) h, .inr (by have := congrArg (fun q => q.2.2) h; simp at this; exact this.1.symm)⟩
        · exact ⟨congrArg (fun q => q.2.1) h, .inl (by have := congrArg (fun q => q.2.2) h; simp at this; exact this.1.symm)⟩
    have ha := spanN_app inNameS (b :: x) rest key.1 (fun b hb => (hf b hb).1 key.2)
    rw [ha, List.take_left]
    rw [key.1, List.take_length] at h
    exact h
  rw [if_neg h3] at h ⊢
  by_cases h4 : c = 4
  · rw [if_pos h4] at h ⊢
    have key : spanN isDig (b :: x) = (b :: x).length ∧ k = 2 := by
      split at h
      · exact absurd (congrArg Prod.fst h) (by simp)
      · split at h
        · exact ⟨congrArg (fun q => q.2.1) h, by have := congrArg (fun q => q.2.2) h; simp at this; exact this.1.symm⟩
        · exact absurd (congrArg Prod.fst h) (by simp)
    have ha := spanN_app isDig (b :: x) rest key.1 (fun b hb => (hf b hb).2.1 key.2)
    rw [ha, List.take_left]
    rw [key.1, List.take_length] at h
    exact h
  rw [if_neg h4] at h ⊢
  by_cases h5 : c = 5
  · rw [if_pos h5] at h ⊢
    by_cases ht : (twos.any fun t => t.isPrefixOf (b :: x)) = true
    · rw [if_pos ht] at h
      rw [if_pos]
      · exact h
      · obtain ⟨t, m1, m2⟩ := List.any_eq_true.1 ht
        exact List.any_eq_true.2 ⟨t, m1, prefix_app m2⟩
    · rw [if_neg ht] at h
      have key : (b :: x).length = 1 ∧ k = 4 := by
        split at h
        · exact absurd (congrArg Prod.fst h) (by simp)
        · exact ⟨(congrArg (fun q => q.2.1) h).symm, by have := congrArg (fun q => q.2.2) h; simp at this; exact this.1.symm⟩
      have hx0 : x = [] := by have := key.1; simp at this; exact this
      subst hx0
      rw [if_neg]
      · exact h
      · intro hany
        obtain ⟨t, m1, m2⟩ := List.any_eq_true.1 hany
        obtain ⟨c0, c1, rfl⟩ := twos_two m1
        cases rest with
        | nil => simp [List.isPrefixOf] at m2
        | cons d rest =>
          simp only [List.cons_append, List.nil_append, List.isPrefixOf, Bool.and_true, Bool.and_eq_true, beq_iff_eq] at m2
          have := (hf d rfl).2.2 key.2 key.1
          rw [← m2.1, ← m2.2] at this
          exact this m1
  · rw [if_neg h5] at h; exact absurd (congrArg Prod.fst h) (by show ¬ (10 : Int) = 0; decide)
theorem Lx.put {k : Int} {x : Str} {v : Int} {rest : Str} {a : Nat} {ts : List Tk} (h : isTok k x v) (hf : fol k x rest) (g : Lx rest (a + x.length) ts) : Lx (x ++ rest) a (⟨k, x, v, a⟩ :: ts) := by
  have := Lx.tok (a := a) (ts := ts) (by simp [h.1]) (h.app hf) (by rw [List.drop_left]; exact g)
  rwa [List.take_left] at this
theorem Lx.blank {b : UInt8} {rest : Str} {a : Nat} {ts : List Tk} (hb : classS b.toNat = 1) (g : Lx rest (a + 1) ts) : Lx (b :: rest) a ts := by
  refine .skip (n := 1) (by simp) ?_ g
  unfold stepT
  rw [List.headD_cons, if_pos hb]
/-- What was scanned as a token is one by itself. -/
theorem tok_self {w : Str} {n : Nat} {k v : Int} (hw : w ≠ []) (h : stepT w = (0, n, some (k, v))) : isTok k (w.take n) v ∧ (w.take n).length = n := by
  cases w with
  | nil => exact absurd rfl hw
  | cons b x =>
  have hn : 0 < n ∧ n ≤ (b :: x).length := by
    have h1 := nextS_T (b :: x) 0 []
    rw [List.drop_zero, h] at h1
    have h2 := next_ok (s := b :: x) (a := 0) (l := []) (by simp) (by rw [h1]; rfl)
    rw [h1] at h2
    dsimp only [putT] at h2
    omega
  have hlen : ((b :: x).take n).length = n := by rw [List.length_take]; omega
  refine ⟨⟨by intro e; rw [e] at hlen; simp at hlen; omega, ?_⟩, hlen⟩
  rw [hlen]
  have hhd : ((b :: x).take n).headD 0 = b := by
    cases n with
    | zero => omega
    | succ n => rfl
  unfold stepT at h ⊢
  rw [hhd]
  rw [List.headD_cons] at h
  generalize classS ((b.toNat : Nat) : Int) = c at h ⊢
  by_cases h1 : c = 1
  · rw [if_pos h1] at h; exact absurd (congrArg (fun q => q.2.2) h) (by simp)
  rw [if_neg h1] at h ⊢
  by_cases h2 : c = 2
  · rw [if_pos h2] at h; exact absurd (congrArg (fun q => q.2.2) h) (by simp)
  rw [if_neg h2] at h ⊢
  by_cases h3 : c = 3
  · rw [if_pos h3] at h ⊢
    have key : spanN inNameS (b :: x) = n := by
      split at h
      · exact absurd (congrArg Prod.fst h) (by simp)
      · split at h <;> exact congrArg (fun q => q.2.1) h
    rw [← key, spanN_take, List.take_take, Nat.min_self]
    rw [← key] at h
    exact h
  rw [if_neg h3] at h ⊢
  by_cases h4 : c = 4
  · rw [if_pos h4] at h ⊢
    have key : spanN isDig (b :: x) = n := by
      split at h
      · exact absurd (congrArg Prod.fst h) (by simp)
      · split at h
        · exact congrArg (fun q => q.2.1) h
        · exact absurd (congrArg Prod.fst h) (by simp)
    rw [← key, spanN_take, List.take_take, Nat.min_self]
    rw [← key] at h
    exact h
  rw [if_neg h4] at h ⊢
  by_cases h5 : c = 5
  · rw [if_pos h5] at h ⊢
    by_cases ht : (twos.any fun t => t.isPrefixOf (b :: x)) = true
    · rw [if_pos ht] at h
      have key : n = 2 := (congrArg (fun q => q.2.1) h).symm
      subst key
      rw [if_pos]
      · exact h
      · obtain ⟨t, m1, m2⟩ := List.any_eq_true.1 ht
        refine List.any_eq_true.2 ⟨t, m1, ?_⟩
        obtain ⟨c0, c1, rfl⟩ := twos_two m1
        rw [List.isPrefixOf_iff_prefix] at m2 ⊢
        exact List.prefix_take_iff.2 ⟨m2, by simp⟩
    · rw [if_neg ht] at h
      rw [if_neg]
      · exact h
      · intro hany
        obtain ⟨t, m1, m2⟩ := List.any_eq_true.1 hany
        refine ht (List.any_eq_true.2 ⟨t, m1, ?_⟩)
        rw [List.isPrefixOf_iff_prefix] at m2 ⊢
        exact m2.trans (List.take_prefix _ _)
  · rw [if_neg h5] at h; exact absurd (congrArg Prod.fst h) (by show ¬ (10 : Int) = 0; decide)
end Go.Proofs.YtmflfcbebeikcaaGreat.Q

namespace Go.Proofs.YtmflfcbebeikcaaGreat.Q
open Go.RowKit
variable [Amb]
theorem class_letter (c : Int) : (classS c == 3) = ((decide (97 ≤ c) && decide (c ≤ 122)) || (decide (65 ≤ c) && decide (c ≤ 90))) := by
  have e : classS c = 3 ↔ (97 ≤ c ∧ c ≤ 122) ∨ (65 ≤ c ∧ c ≤ 90) := by
    unfold classS
    repeat' split
    all_goals omega
  rw [Bool.eq_iff_iff]
  simpa using e
theorem class_digit (c : Int) : (classS c == 4) = (decide (48 ≤ c) && decide (c ≤ 57)) := by
  have e : classS c = 4 ↔ (48 ≤ c ∧ c ≤ 57) := by
    unfold classS
    repeat' split
    all_goals omega
  rw [Bool.eq_iff_iff]
  simpa using e
theorem refLetter_c (c : Int) : PFun Tryz.prog 29 [.d (.int .u8 c)] [] (.d (.bool (classS c == 3))) [] := by
  rw [class_letter]
  refine fn_sem pok 17 0 Tryz.func29 (by kernel_rfl) rfl rfl rfl rfl ?_
  refine SWp.go pok (by kernel_rfl) ?_
  repeat' (refine brP_split (fun h => ?_) (fun h => ?_))
  all_goals
    refine fin1 (dbool ?_)
    simp only [ge_iff_le, decide_eq_true_eq, decide_eq_false_iff_not] at *
    simp [*]
    try omega
theorem refDigit_c (c : Int) : PFun Tryz.prog 30 [.d (.int .u8 c)] [] (.d (.bool (classS c == 4))) [] := by
  rw [class_digit]
  refine fn_sem pok 9 0 Tryz.func30 (by kernel_rfl) rfl rfl rfl rfl ?_
  refine SWp.go pok (by kernel_rfl) ?_
  repeat' (refine brP_split (fun h => ?_) (fun h => ?_))
  all_goals
    refine fin1 (dbool ?_)
    simp only [ge_iff_le, decide_eq_true_eq, decide_eq_false_iff_not] at *
    simp [*]
theorem refWords_c : PFun Tryz.prog 59 [] [] (.d (.sl (words.map scell))) [] := by
  refine fn_sem pok 2 0 Tryz.func59 (by kernel_rfl) rfl rfl rfl rfl ?_
  refine SWp.go pok (by kernel_rfl) ?_
  exact fin1 rfl
theorem refWord_c (s : Str) : PFun Tryz.prog 31 [sv' s] [] (.d (.bool (isWord s))) [] := by
  refine fn_sem pok 18 0 Tryz.func31 (by kernel_rfl) rfl rfl rfl rfl ?_
  refine SWp.go pok (by kernel_rfl) ?_
  refine PFun.call refWords_c ?_
  refine SWp.loop (fun k : Nat => k ≤ words.length ∧ (words.drop k).any (fun w => s == w) = isWord s) (fun k => ([(0, sv' s), (3, .d (.sl (words.map scell))), (4, iv k)], [])) (fun k => words.length - k) 0 ⟨Nat.zero_le _, rfl⟩ (Le.same ⟨rfl, rfl, rfl, trivial⟩) (fun k hk => ?_)
  obtain ⟨hj, hk⟩ := hk
  have hwl : words.length = 20 := rfl
  refine SWp.go pok (by kernel_rfl) ?_
  refine brP_split (fun h => ?_) (fun h => ?_)
  · have hlt : k < words.length := by simpa using h
    have hat : (words.drop k).any (fun w => s == w) = ((s == words[k]) || (words.drop (k + 1)).any (fun w => s == w)) := by rw [List.drop_eq_getElem_cons hlt]; rfl
    refine PIdx.map (get_at hlt) ?_
    refine brP_split (fun h3 => ?_) (fun h3 => ?_)
    · have h3 : (s == words[k]) = true := by rw [beq_iff_eq] at h3 ⊢; exact h3.symm
      exact fin1 (dbool (by rw [← hk, hat, h3]; rfl))
    · have h3 : (s == words[k]) = false := by rw [beq_eq_false_iff_ne] at h3 ⊢; exact fun e => h3 e.symm
      exact ⟨k + 1, ⟨hlt, by rw [← hk, hat, h3]; rfl⟩, by omega, Le.same ⟨rfl, rfl, sint (wrap_nat k (by omega)), trivial⟩⟩
  · have hk' : words.drop k = [] := List.drop_of_length_le (by simp at h; omega)
    exact fin1 (dbool (by rw [← hk, hk']; rfl))
end Go.Proofs.YtmflfcbebeikcaaGreat.Q

namespace Go.Proofs.YtmflfcbebeikcaaGreat.Q
open Go.RowKit
variable [Amb]

/-! ### numbers -/
def decS (n : Int) : Str → Int
  | [] => n
  | b :: r => decS (10 * n + ((b.toNat : Int) - 48)) r
def digits (l : Str) : Prop := ∀ b ∈ l, 48 ≤ (b.toNat : Int) ∧ (b.toNat : Int) ≤ 57
theorem decS_ge : ∀ (l : Str) (n : Int), 0 ≤ n → digits l → n * 10 ^ l.length ≤ decS n l
  | [], n, h, _ => by simp [decS]
  | b :: r, n, h, hd => by
    have hb := hd b (by simp)
    have ih := decS_ge r (10 * n + ((b.toNat : Int) - 48)) (by omega) (fun c hc => hd c (by simp [hc]))
    rw [decS, List.length_cons, Int.pow_succ]
    refine Int.le_trans ?_ ih
    rw [Int.mul_comm (10 ^ r.length) 10, ← Int.mul_assoc]
    refine Int.mul_le_mul_of_nonneg_right (by omega) ?_
    exact Int.le_of_lt (Int.pow_pos (by decide))
theorem decS_lt : ∀ (l : Str) (n : Int), 0 ≤ n → digits l → decS n l < (n + 1) * 10 ^ l.length
  | [], n, h, _ => by simp [decS]; omega
  | b :: r, n, h, hd => by
    have hb := hd b (by simp)
    have ih := decS_lt r (10 * n + ((b.toNat : Int) - 48)) (by omega) (fun c hc => hd c (by simp [hc]))
    rw [decS, List.length_cons, Int.pow_succ]
    refine Int.lt_of_lt_of_le ih ?_
    rw [Int.mul_comm (10 ^ r.length) 10, ← Int.mul_assoc]
    refine Int.mul_le_mul_of_nonneg_right (by omega) ?_
    exact Int.le_of_lt (Int.pow_pos (by decide))
theorem decS_nonneg {l : Str} {n : Int} (h : 0 ≤ n) (hd : digits l) : n ≤ decS n l := by
  have h1 := decS_ge l n h hd
  have h2 : (1 : Int) ≤ 10 ^ l.length := Int.pow_pos (by decide)
  have h3 : n * 1 ≤ n * 10 ^ l.length := Int.mul_le_mul_of_nonneg_left h2 h
  omega
theorem digS_dec : ∀ (l : Str) (n : Int), 0 ≤ n → n ≤ 9223372036854775807 → digits l → digS n l = if decS n l ≤ 9223372036854775807 then some (decS n l) else none
  | [], n, h, hm, _ => by rw [digS, decS, if_pos hm]
  | b :: r, n, h, hm, hd => by
    have hb := hd b (by simp)
    have hr : digits r := fun c hc => hd c (by simp [hc])
    rw [digS, decS]
    obtain ⟨q, hq⟩ : ∃ q, q = (9223372036854775807 - ((b.toNat : Int) - 48)).tdiv 10 := ⟨_, rfl⟩
    rw [← hq]
    rw [Int.tdiv_eq_ediv_of_nonneg (by omega)] at hq
    by_cases hgt : n > q
    · rw [if_pos hgt]
      have := decS_nonneg (n := 10 * n + ((b.toNat : Int) - 48)) (by omega) hr
      rw [if_neg (by omega)]
    · rw [if_neg hgt]
      exact digS_dec r _ (by omega) (by omega) hr
/-- What the reference says of a row of digits. -/
def numR (s : Str) : Int × Bool := if s.length > 1 ∧ s.headD 0 = 48 then (0, false) else if s.length > 19 then (0, false) else (IntKind.i64.wrap (decS 0 s), decide (decS 0 s ≤ 9223372036854775807))
theorem numR_dig {s : Str} (hd : digits s) (hz : ¬ (s.headD 0 = 48 ∧ s.length > 1)) : (∀ v, digS 0 s = some v → numR s = (v, true)) ∧ (digS 0 s = none → (numR s).2 = false) := by
  have hN : numR s = if s.length > 19 then (0, false) else (IntKind.i64.wrap (decS 0 s), decide (decS 0 s ≤ 9223372036854775807)) := by
    unfold numR
    rw [if_neg (fun e => hz ⟨e.2, e.1⟩)]
  rw [hN, digS_dec s 0 (by decide) (by decide) hd]
  have h0 := decS_nonneg (n := 0) (by decide) hd
  by_cases h19 : s.length > 19
  · have hbig : 9223372036854775807 < decS 0 s := by
      cases s with
      | nil => simp at h19
      | cons b r =>
        have hb := hd b (by simp)
        have hne : b ≠ 48 := fun e => hz ⟨by rw [e]; rfl, by omega⟩
        have hne' : (b.toNat : Int) ≠ 48 := fun e => hne (UInt8.toNat_inj.1 (by show b.toNat = 48; omega))
        have h1 := decS_ge r (10 * 0 + ((b.toNat : Int) - 48)) (by omega) (fun c hc => hd c (by simp [hc]))
        rw [decS]
        have h2 : (1 : Int) * 10 ^ r.length ≤ (10 * 0 + ((b.toNat : Int) - 48)) * 10 ^ r.length := Int.mul_le_mul_of_nonneg_right (by omega) (Int.le_of_lt (Int.pow_pos (by decide)))
        have h3 : (10 : Int) ^ 19 ≤ 10 ^ r.length := by
          have : r.length = 19 + (r.length - 19) := by simp at h19; omega
          rw [this, Int.pow_add]
          have h4 : (1 : Int) ≤ 10 ^ (r.length - 19) := Int.pow_pos (by decide)
          have := Int.mul_le_mul_of_nonneg_left h4 (show (0 : Int) ≤ 10 ^ 19 by decide)
          omega
        have h5 : (10 : Int) ^ 19 = 10000000000000000000 := by decide
        omega
    have hno : ¬ decS 0 s ≤ 9223372036854775807 := by omega
    rw [if_pos h19, if_neg hno]
    exact ⟨fun v h => (by cases h), fun _ => rfl⟩
  · rw [if_neg h19]
    by_cases hle : decS 0 s ≤ 9223372036854775807
    · rw [if_pos hle]
      refine ⟨fun v h => ?_, fun h => by cases h⟩
      injection h with h
      subst h
      rw [decide_eq_true hle]
      congr 1
      rw [IntKind.wrap_i64]; omega
    · rw [if_neg hle]
      exact ⟨fun v h => (by cases h), fun _ => decide_eq_false hle⟩
theorem decS_at {l : Str} {k : Nat} (n : Int) (h : k < l.length) : decS n (l.drop k) = decS (10 * n + ((l[k].toNat : Int) - 48)) (l.drop (k + 1)) := by
  rw [List.drop_eq_getElem_cons h]; rfl
theorem refNumber_c (s : Str) (hd : digits s) (hs : s.length < 1073741824) (h1 : 0 < s.length) : PFun Tryz.prog 32 [sv' s] [] (.tup [iv (numR s).1, .d (.bool (numR s).2)]) [] := by
  refine fn_sem pok 37 0 Tryz.func32 (by kernel_rfl) rfl rfl rfl rfl ?_
  refine SWp.go pok (by kernel_rfl) ?_
  have hh : s[0]? = some (s.headD 0) := by cases s with | nil => simp at h1 | cons b r => rfl
  have e48 : (((s.headD 0).toNat : Int) == 48) = (s.headD 0 == 48) := by
    rw [Bool.eq_iff_iff, beq_iff_eq, beq_iff_eq]
    exact ⟨fun h => UInt8.toNat_inj.1 (by show (s.headD 0).toNat = 48; omega), fun h => by rw [h]; rfl⟩
  have rest : ∀ k, k ≤ s.length → s.length ≤ 19 → 0 ≤ decS 0 (s.take k) ∧ decS 0 (s.take k) < 10000000000000000000 := fun k hk h19 => by
    have ht : digits (s.take k) := fun b hb => hd b (List.mem_of_mem_take hb)
    have h1 := decS_nonneg (n := 0) (by decide) ht
    have h2 := decS_lt (s.take k) 0 (by decide) ht
    have h3 : (10 : Int) ^ (s.take k).length ≤ 10 ^ 19 := by
      have hl : (s.take k).length ≤ 19 := by rw [List.length_take]; omega
      have e : 19 = (s.take k).length + (19 - (s.take k).length) := by omega
      have h4 : (1 : Int) ≤ 10 ^ (19 - (s.take k).length) := Int.pow_pos (by decide)
      have h5 := Int.mul_le_mul_of_nonneg_left h4 (show (0 : Int) ≤ 10 ^ (s.take k).length from Int.le_of_lt (Int.pow_pos (by decide)))
      rw [← Int.pow_add, ← e] at h5
      omega
    have h5 : (10 : Int) ^ 19 = 10000000000000000000 := by decide
    rw [h5] at h3
    omega
  have snoc : ∀ k (h : k < s.length), decS 0 (s.take (k + 1)) = 10 * decS 0 (s.take k) + ((s[k].toNat : Int) - 48) := fun k h => by
    have app : ∀ (l : Str) (n : Int) (b : UInt8), decS n (l ++ [b]) = 10 * decS n l + ((b.toNat : Int) - 48) := by
      intro l
      induction l with
      | nil => intro n b; rfl
      | cons c l ih => intro n b; exact ih _ b
    rw [List.take_add_one, List.getElem?_eq_getElem h]
    exact app _ _ _
  by_cases hz : s.length > 1 ∧ s.headD 0 = 48
  · unfold numR
    rw [if_pos hz]
    refine brP_true (by have := hz.1; simp; omega) ?_
    refine PIdx.at' rfl hh ?_
    refine brP_true (by rw [e48]; simpa using hz.2) ?_
    exact fin1 rfl
  have hN : numR s = if s.length > 19 then (0, false) else (IntKind.i64.wrap (decS 0 s), decide (decS 0 s ≤ 9223372036854775807)) := by
    unfold numR; rw [if_neg hz]
  rw [hN]
  refine brP_split (fun h => ?_) (fun h => ?_)
  all_goals try
    refine PIdx.at' rfl hh ?_
    refine brP_false (by rw [e48, beq_eq_false_iff_ne]; simp at h; exact fun e => hz ⟨by omega, e⟩) ?_
  all_goals
    by_cases h19 : s.length > 19
    · rw [if_pos h19]
      refine brP_true (by simp; omega) ?_
      exact fin1 rfl
    rw [if_neg h19]
    refine brP_false (by simp; omega) ?_
    refine SWp.loop (fun k : Nat => k ≤ s.length) (fun k => ([(0, sv' s), (4, .d (.int .u64 (decS 0 (s.take k)))), (5, iv k)], [])) (fun k => s.length - k) 0 (Nat.zero_le _) (Le.same ⟨rfl, rfl, rfl, trivial⟩) (fun k hk => ?_)
    refine SWp.go pok (by kernel_rfl) ?_
    refine brP_split (fun h => ?_) (fun h => ?_)
    · have hlt : k < s.length := by simpa using h
      have hb := hd s[k] (List.getElem_mem hlt)
      have hs1 := snoc k hlt
      have r1 := rest k (by omega) (by omega)
      have r2 := rest (k + 1) hlt (by omega)
      refine PIdx.at (get_at hlt) ?_
      have wa : IntKind.u8.wrap ((s[k].toNat : Int) - 48) = (s[k].toNat : Int) - 48 := by rw [IntKind.wrap_u8]; omega
      have wb : IntKind.u64.wrap ((s[k].toNat : Int) - 48) = (s[k].toNat : Int) - 48 := by rw [IntKind.wrap_u64]; omega
      have wc : IntKind.u64.wrap (10 * decS 0 (s.take k)) = 10 * decS 0 (s.take k) := by rw [IntKind.wrap_u64]; omega
      have wd : IntKind.u64.wrap (10 * decS 0 (s.take k) + ((s[k].toNat : Int) - 48)) = decS 0 (s.take (k + 1)) := by rw [hs1, IntKind.wrap_u64]; omega
      exact ⟨k + 1, hlt, by omega, Le.same ⟨rfl, by rw [wa, wb, wc, wd]; rfl, sint (wrap_nat k (by omega)), trivial⟩⟩
    · have hk' : k = s.length := by simp at h; omega
      subst hk'
      rw [List.take_length]
      refine brP_split (fun h5 => ?_) (fun h5 => ?_)
      · rw [h5]; exact fin1 rfl
      · rw [h5]; exact fin1 rfl
end Go.Proofs.YtmflfcbebeikcaaGreat.Q

namespace Go.Proofs.YtmflfcbebeikcaaGreat.Q
open Go.RowKit
variable [Amb]

def singles : List Str := [[123], [125], [40], [41], [59], [58], [61], [60], [62], [43], [45], [42], [33], [46]]
theorem all_u8 (p : UInt8 → Bool) (h : ((List.range 256).all fun n => p (UInt8.ofNat n)) = true) (b : UInt8) : p b = true := by
  have := List.all_eq_true.1 h b.toNat (List.mem_range.2 b.toNat_lt)
  rwa [UInt8.ofNat_toNat] at this
theorem single_all : ((List.range 256).all fun n => (singles.find? fun t => t == [UInt8.ofNat n]) == (if classS (UInt8.ofNat n).toNat = 5 ∧ ¬ (UInt8.ofNat n = 38 ∨ UInt8.ofNat n = 124) then some [UInt8.ofNat n] else none)) = true := by kernel_rfl
theorem find_congr {α : Type} {p q : α → Bool} : ∀ {l : List α}, (∀ x ∈ l, p x = q x) → l.find? p = l.find? q
  | [], _ => rfl
  | x :: l, h => by
    rw [List.find?_cons, List.find?_cons, h x (by simp), find_congr (l := l) fun y hy => h y (by simp [hy])]
theorem single_find (b : UInt8) (r : Str) : (singles.find? fun t => t.isPrefixOf (b :: r)) = if classS b.toNat = 5 ∧ ¬ (b = 38 ∨ b = 124) then some [b] else none := by
  have h := all_u8 (fun b => (singles.find? fun t => t == [b]) == (if classS b.toNat = 5 ∧ ¬ (b = 38 ∨ b = 124) then some [b] else none)) single_all b
  rw [← beq_iff_eq.1 h]
  refine find_congr fun t ht => ?_
  obtain ⟨c, rfl⟩ : ∃ c, t = [c] := by
    simp only [singles, List.mem_cons, List.not_mem_nil, or_false] at ht
    rcases ht with rfl | rfl | rfl | rfl | rfl | rfl | rfl | rfl | rfl | rfl | rfl | rfl | rfl | rfl <;> exact ⟨_, rfl⟩
  simp [List.isPrefixOf]
theorem two_all : (twos.all fun t => classS (t.headD 0).toNat == 5) = true := by kernel_rfl
/-- What the reference's list of signs says. -/
theorem sgn_find (b : UInt8) (r : Str) (h1 : classS b.toNat ≠ 1) (h2 : classS b.toNat ≠ 2) (h3 : classS b.toNat ≠ 3) (h4 : classS b.toNat ≠ 4) :
    (∀ t, (twos ++ singles).find? (fun t => t.isPrefixOf (b :: r)) = some t → stepT (b :: r) = (0, t.length, some (4, 0)) ∧ (b :: r).take t.length = t) ∧
    ((twos ++ singles).find? (fun t => t.isPrefixOf (b :: r)) = none → stepT (b :: r) = (10, 0, none)) := by
  have hst : stepT (b :: r) = if classS b.toNat = 5 then (if (twos.any fun t => t.isPrefixOf (b :: r)) = true then (0, 2, some (4, 0)) else if b = 38 ∨ b = 124 then (10, 0, none) else (0, 1, some (4, 0))) else (10, 0, none) := by
    unfold stepT
    rw [List.headD_cons, if_neg h1, if_neg h2, if_neg h3, if_neg h4]
  rw [hst, List.find?_append]
  by_cases hany : (twos.any fun t => t.isPrefixOf (b :: r)) = true
  · obtain ⟨t, m1, m2⟩ := List.any_eq_true.1 hany
    have hc5 : classS b.toNat = 5 := by
      have := List.all_eq_true.1 two_all t m1
      have hc := beq_iff_eq.1 this
      obtain ⟨c, d, rfl⟩ := twos_two m1
      simp only [List.isPrefixOf, Bool.and_eq_true, beq_iff_eq] at m2
      rw [← m2.1]; exact hc
    rw [if_pos hc5, if_pos hany]
    cases hf : twos.find? (fun t => t.isPrefixOf (b :: r)) with
    | none => exact absurd m2 (by simpa using List.find?_eq_none.1 hf t m1)
    | some u =>
      have hu := List.mem_of_find?_eq_some hf
      have hp := List.find?_some hf
      obtain ⟨c, d, rfl⟩ := twos_two hu
      refine ⟨fun t h => ?_, fun h => by simp at h⟩
      injection h with h
      subst h
      refine ⟨rfl, ?_⟩
      rw [List.isPrefixOf_iff_prefix, List.prefix_iff_eq_take] at hp
      exact hp.symm
  · have hf : twos.find? (fun t => t.isPrefixOf (b :: r)) = none := List.find?_eq_none.2 fun t ht hp => hany (List.any_eq_true.2 ⟨t, ht, hp⟩)
    rw [hf, Option.none_or, single_find, if_neg hany]
    by_cases hc : classS b.toNat = 5 ∧ ¬ (b = 38 ∨ b = 124)
    · rw [if_pos hc, if_pos hc.1, if_neg hc.2]
      refine ⟨fun t h => ?_, fun h => by cases h⟩
      injection h with h
      subst h
      exact ⟨rfl, rfl⟩
    · rw [if_neg hc]
      refine ⟨fun t h => (by cases h), fun _ => ?_⟩
      by_cases h5 : classS b.toNat = 5
      · rw [if_pos h5, if_pos (Classical.byContradiction fun e => hc ⟨h5, e⟩)]
      · rw [if_neg h5]
theorem refSigns_c : PFun Tryz.prog 33 [] [] (.d (.sl ((twos ++ singles).map scell))) [] := by
  refine fn_sem pok 2 0 Tryz.func33 (by kernel_rfl) rfl rfl rfl rfl ?_
  refine SWp.go pok (by kernel_rfl) ?_
  exact fin1 rfl
/-- A token at a place, or an error. -/
def oneR (w : Str) (a : Nat) : Tk × Int := match stepT w with
  | (e, n, some (k, v)) => (⟨k, w.take n, v, a⟩, e)
  | (e, _, none) => (tk0, e)
theorem digits_span {s : Str} {a : Nat} : digits ((s.drop a).take (spanN isDig (s.drop a))) := by
  intro b hb
  have : ∀ (l : Str), ∀ c ∈ l.take (spanN isDig l), isDig c.toNat = true := by
    intro l
    induction l with
    | nil => intro c hc; simp at hc
    | cons d l ih =>
      intro c hc
      rw [spanN] at hc
      split at hc
      · rename_i hd
        rw [List.take_succ_cons] at hc
        rcases List.mem_cons.1 hc with e | e
        · rw [e]; exact hd
        · exact ih c e
      · simp at hc
  have h := this _ b hb
  exact classS_dig (by simpa [isDig] using h)
theorem refOne_c (s : Str) (a : Nat) (ha : a < s.length) (hs : s.length < 1073741824) (h1 : classS s[a].toNat ≠ 1) (h2 : classS s[a].toNat ≠ 2) :
    PFun Tryz.prog 15 [sv' s, iv a] [] (.tup [(oneR (s.drop a) a).1.v, iv (oneR (s.drop a) a).2]) [] := by
  have hdr : s.drop a = s[a] :: s.drop (a + 1) := List.drop_eq_getElem_cons ha
  have hsp := spanN_le inNameS (s.drop a)
  have hsd := spanN_le isDig (s.drop a)
  rw [List.length_drop] at hsp hsd
  refine fn_sem pok 132 0 Tryz.func15 (by kernel_rfl) rfl rfl rfl rfl ?_
  refine SWp.go pok (by kernel_rfl) ?_
  refine PIdx.at (get_at ha) ?_
  refine PFun.call (refLetter_c _) ?_
  by_cases h3 : classS s[a].toNat = 3
  · refine brP_true (by simpa using h3) ?_
    have hst : stepT (s.drop a) = if spanN inNameS (s.drop a) > 32 then (12, 0, none) else if isWord ((s.drop a).take (spanN inNameS (s.drop a))) = true then (0, spanN inNameS (s.drop a), some (3, 0)) else (0, spanN inNameS (s.drop a), some (1, 0)) := by
      unfold stepT
      rw [hdr, List.headD_cons, if_neg h1, if_neg h2, if_pos h3]
    refine SWp.loop (fun k : Nat => a ≤ k ∧ k ≤ s.length ∧ spanF inNameS k (s.drop k) = spanF inNameS a (s.drop a)) (fun k => ([(0, sv' s), (1, iv a), (7, iv k), (4, .ptr 0 0)], [.box [iv 0, sv' [], iv 0, iv 0]])) (fun k => s.length - k) a ⟨Nat.le_refl _, by omega, rfl⟩ (Le.same ⟨rfl, rfl, rfl, rfl, trivial⟩) (fun k hk => ?_)
    obtain ⟨hak, hj, hk⟩ := hk
    have hw1 : IntKind.i64.wrap ((k : Int) + 1) = ((k + 1 : Nat) : Int) := wrap_nat k (by omega)
    -- behind the loop
    have after : spanF inNameS a (s.drop a) = k → (spanN inNameS (s.drop a) = k - a) := fun e => by rw [spanF_N] at e; omega
    have fin : ∀ (hsp : spanF inNameS a (s.drop a) = k), IntKind.i64.wrap ((k : Int) - a) = ((k - a : Nat) : Int) := fun _ => by rw [IntKind.wrap_i64]; omega
    refine SWp.go pok (by kernel_rfl) ?_
    have done : ∀ (hsp : spanF inNameS a (s.drop a) = k), cutFrom (cutTo s (some (k : Int))) (some (a : Int)) = (s.drop a).take (k - a) := fun _ => by
      simp only [cutTo, cutFrom, Int.toNat_natCast]
      rw [List.drop_take]
    refine brP_split (fun h => ?_) (fun h => ?_)
    · have hlt : k < s.length := by simpa using h
      have hat := spanF_at inNameS hlt
      refine PIdx.at (get_at hlt) ?_
      refine PFun.call (refLetter_c _) ?_
      refine brP_split (fun h3 => ?_) (fun h3 => ?_)
      · have h3 : (classS (s[k].toNat : Int) == 3) = true := by simpa using h3
        have hin : inNameS s[k].toNat = true := by unfold inNameS; rw [h3]; simp
        repeat refine brP_true h3 ?_
        exact ⟨k + 1, ⟨by omega, hlt, by rw [← hk, hat, if_pos hin]⟩, by omega, Le.same ⟨rfl, rfl, sint hw1, rfl, trivial⟩⟩
      have h3 : (classS (s[k].toNat : Int) == 3) = false := by simpa using h3
      repeat refine brP_false h3 ?_
      refine PIdx.at (get_at hlt) ?_
      repeat refine brP_false h3 ?_
      refine PFun.call (refDigit_c _) ?_
      repeat refine brP_false h3 ?_
      refine brP_split (fun h4 => ?_) (fun h4 => ?_)
      · have h4 : (classS (s[k].toNat : Int) == 4) = true := by simpa using h4
        have hin : inNameS s[k].toNat = true := by unfold inNameS; rw [h4]; simp
        repeat (first | refine brP_true h4 ?_ | refine brP_false h3 ?_)
        exact ⟨k + 1, ⟨by omega, hlt, by rw [← hk, hat, if_pos hin]⟩, by omega, Le.same ⟨rfl, rfl, sint hw1, rfl, trivial⟩⟩
      have h4 : (classS (s[k].toNat : Int) == 4) = false := by simpa using h4
      repeat (first | refine brP_false h4 ?_ | refine brP_false h3 ?_)
      refine PIdx.at (get_at hlt) ?_
      repeat (first | refine brP_false h4 ?_ | refine brP_false h3 ?_)
      refine brP_split (fun h5 => ?_) (fun h5 => ?_)
      · have h5 : ((s[k].toNat : Int) == 95) = true := by simpa using h5
        have hin : inNameS s[k].toNat = true := by unfold inNameS; rw [h5]; simp
        repeat (first | refine brP_true h5 ?_ | refine brP_false h4 ?_ | refine brP_false h3 ?_)
        exact ⟨k + 1, ⟨by omega, hlt, by rw [← hk, hat, if_pos hin]⟩, by omega, Le.same ⟨rfl, rfl, sint hw1, rfl, trivial⟩⟩
      have h5 : ((s[k].toNat : Int) == 95) = false := by simpa using h5
      have hin : inNameS s[k].toNat = false := by unfold inNameS; rw [h3, h4, h5]; rfl
      repeat (first | refine brP_false h5 ?_ | refine brP_false h4 ?_ | refine brP_false h3 ?_)
      have hsp : spanF inNameS a (s.drop a) = k := by rw [← hk, hat, if_neg (by rw [hin]; simp)]
      have hnn := after hsp
      have hdn := done hsp
      have hwk := fin hsp
      rw [hnn] at hst
      have hw := refWord_c ((s.drop a).take (k - a))
      rw [← hdn] at hw
      refine ⟨⟨by omega, by omega, by omega⟩, ?_⟩
      refine PFun.call hw ?_
      rw [hdn]
      by_cases hW : isWord ((s.drop a).take (k - a)) = true
      · refine brP_true hW ?_
        by_cases h32 : k - a > 32
        · refine brP_true (by rw [hwk]; simp; omega) ?_
          refine fin1 ?_
          unfold oneR
          rw [hst, if_pos h32]; rfl
        · refine brP_false (by rw [hwk]; simp; omega) ?_
          refine fin1 ?_
          unfold oneR
          rw [hst, if_neg h32, if_pos hW]; rfl
      · refine brP_false (by simpa using hW) ?_
        by_cases h32 : k - a > 32
        · refine brP_true (by rw [hwk]; simp; omega) ?_
          refine fin1 ?_
          unfold oneR
          rw [hst, if_pos h32]; rfl
        · refine brP_false (by rw [hwk]; simp; omega) ?_
          refine fin1 ?_
          unfold oneR
          rw [hst, if_neg h32, if_neg hW]; rfl
    · have hk' : s.drop k = [] := List.drop_of_length_le (by simp at h; omega)
      have hsp : spanF inNameS a (s.drop a) = k := by rw [← hk, hk']; rfl
      have hnn := after hsp
      have hdn := done hsp
      have hwk := fin hsp
      rw [hnn] at hst
      have hw := refWord_c ((s.drop a).take (k - a))
      rw [← hdn] at hw
      refine ⟨⟨by omega, by omega, by omega⟩, ?_⟩
      refine PFun.call hw ?_
      rw [hdn]
      by_cases hW : isWord ((s.drop a).take (k - a)) = true
      · refine brP_true hW ?_
        by_cases h32 : k - a > 32
        · refine brP_true (by rw [hwk]; simp; omega) ?_
          refine fin1 ?_
          unfold oneR
          rw [hst, if_pos h32]; rfl
        · refine brP_false (by rw [hwk]; simp; omega) ?_
          refine fin1 ?_
          unfold oneR
          rw [hst, if_neg h32, if_pos hW]; rfl
      · refine brP_false (by simpa using hW) ?_
        by_cases h32 : k - a > 32
        · refine brP_true (by rw [hwk]; simp; omega) ?_
          refine fin1 ?_
          unfold oneR
          rw [hst, if_pos h32]; rfl
        · refine brP_false (by rw [hwk]; simp; omega) ?_
          refine fin1 ?_
          unfold oneR
          rw [hst, if_neg h32, if_neg hW]; rfl
  refine brP_false (by simpa using h3) ?_
  refine PFun.call (refDigit_c _) ?_
  by_cases h4 : classS s[a].toNat = 4
  · refine brP_true (by simpa using h4) ?_
    have hst : stepT (s.drop a) = if (s.drop a).headD 0 = 48 ∧ spanN isDig (s.drop a) > 1 then ((11 : Int), (0 : Nat), (none : Option (Int × Int))) else match digS 0 ((s.drop a).take (spanN isDig (s.drop a))) with
        | some v => (0, spanN isDig (s.drop a), some (2, v))
        | none => (11, 0, none) := by
      unfold stepT
      rw [hdr, List.headD_cons, if_neg h1, if_neg h2, if_neg h3, if_pos h4]
      try rfl
    refine SWp.loop (fun k : Nat => a ≤ k ∧ k ≤ s.length ∧ spanF isDig k (s.drop k) = spanF isDig a (s.drop a)) (fun k => ([(0, sv' s), (1, iv a), (7, iv k), (4, .ptr 0 0)], [.box [iv 0, sv' [], iv 0, iv 0]])) (fun k => s.length - k) a ⟨Nat.le_refl _, by omega, rfl⟩ (Le.same ⟨rfl, rfl, rfl, rfl, trivial⟩) (fun k hk => ?_)
    obtain ⟨hak, hj, hk⟩ := hk
    have hw1 : IntKind.i64.wrap ((k : Int) + 1) = ((k + 1 : Nat) : Int) := wrap_nat k (by omega)
    have after : spanF isDig a (s.drop a) = k → (spanN isDig (s.drop a) = k - a) := fun e => by rw [spanF_N] at e; omega
    have done : ∀ (hsp : spanF isDig a (s.drop a) = k), cutFrom (cutTo s (some (k : Int))) (some (a : Int)) = (s.drop a).take (k - a) := fun _ => by
      simp only [cutTo, cutFrom, Int.toNat_natCast]
      rw [List.drop_take]
    refine SWp.go pok (by kernel_rfl) ?_
    refine brP_split (fun h => ?_) (fun h => ?_)
    · have hlt : k < s.length := by simpa using h
      have hat := spanF_at isDig hlt
      refine PIdx.at (get_at hlt) ?_
      refine PFun.call (refDigit_c _) ?_
      refine brP_split (fun h5 => ?_) (fun h5 => ?_)
      · have hin : isDig s[k].toNat = true := by unfold isDig; simpa using h5
        exact ⟨k + 1, ⟨by omega, hlt, by rw [← hk, hat, if_pos hin]⟩, by omega, Le.same ⟨rfl, rfl, sint hw1, rfl, trivial⟩⟩
      have hin : isDig s[k].toNat = false := by unfold isDig; simpa using h5
      have hsp : spanF isDig a (s.drop a) = k := by rw [← hk, hat, if_neg (by rw [hin]; simp)]
      have hnn := after hsp
      have hdn := done hsp
      rw [hnn] at hst
      have hdg : digits ((s.drop a).take (k - a)) := by rw [← hnn]; exact digits_span
      have hln : ((s.drop a).take (k - a)).length = k - a := by rw [List.length_take, List.length_drop]; omega
      have hpos : a < k := by
        rw [← hsp, hdr, spanF, if_pos (by unfold isDig; simpa using h4)]
        have := spanF_ge isDig (s.drop (a + 1)) (a + 1); omega
      have hn := refNumber_c ((s.drop a).take (k - a)) hdg (by omega) (by omega)
      rw [← hdn] at hn
      refine ⟨⟨by omega, by omega, by omega⟩, ?_⟩
      refine PFun.call hn ?_
      rw [hdn]
      have hhd : ((s.drop a).take (k - a)).headD 0 = (s.drop a).headD 0 := by
        rw [hdr]
        have : k - a = (k - a - 1) + 1 := by omega
        rw [this]; rfl
      by_cases hz : ((s.drop a).take (k - a)).headD 0 = 48 ∧ ((s.drop a).take (k - a)).length > 1
      · have hno : (numR ((s.drop a).take (k - a))).2 = false := by unfold numR; rw [if_pos ⟨hz.2, hz.1⟩]
        rw [hln, hhd] at hz
        rw [if_pos hz] at hst
        refine brP_true (by rw [hno]; rfl) ?_
        refine fin1 ?_
        unfold oneR
        rw [hst]; rfl
      obtain ⟨n1, n2⟩ := numR_dig hdg hz
      rw [hln, hhd] at hz
      rw [if_neg hz] at hst
      cases hv : digS 0 ((s.drop a).take (k - a)) with
      | none =>
        rw [hv] at hst
        refine brP_true (by rw [n2 hv]; rfl) ?_
        refine fin1 ?_
        unfold oneR
        rw [hst]; rfl
      | some v =>
        rw [hv] at hst
        have hnv := n1 v hv
        refine brP_false (by rw [hnv]; rfl) ?_
        refine ⟨⟨by omega, by omega, by omega⟩, ?_⟩
        refine fin1 ?_
        unfold oneR
        rw [hst, hdn, hnv]; rfl
    · have hk' : s.drop k = [] := List.drop_of_length_le (by simp at h; omega)
      have hsp : spanF isDig a (s.drop a) = k := by rw [← hk, hk']; rfl
      have hnn := after hsp
      have hdn := done hsp
      rw [hnn] at hst
      have hdg : digits ((s.drop a).take (k - a)) := by rw [← hnn]; exact digits_span
      have hln : ((s.drop a).take (k - a)).length = k - a := by rw [List.length_take, List.length_drop]; omega
      have hpos : a < k := by
        rw [← hsp, hdr, spanF, if_pos (by unfold isDig; simpa using h4)]
        have := spanF_ge isDig (s.drop (a + 1)) (a + 1); omega
      have hn := refNumber_c ((s.drop a).take (k - a)) hdg (by omega) (by omega)
      rw [← hdn] at hn
      refine ⟨⟨by omega, by omega, by omega⟩, ?_⟩
      refine PFun.call hn ?_
      rw [hdn]
      have hhd : ((s.drop a).take (k - a)).headD 0 = (s.drop a).headD 0 := by
        rw [hdr]
        have : k - a = (k - a - 1) + 1 := by omega
        rw [this]; rfl
      by_cases hz : ((s.drop a).take (k - a)).headD 0 = 48 ∧ ((s.drop a).take (k - a)).length > 1
      · have hno : (numR ((s.drop a).take (k - a))).2 = false := by unfold numR; rw [if_pos ⟨hz.2, hz.1⟩]
        rw [hln, hhd] at hz
        rw [if_pos hz] at hst
        refine brP_true (by rw [hno]; rfl) ?_
        refine fin1 ?_
        unfold oneR
        rw [hst]; rfl
      obtain ⟨n1, n2⟩ := numR_dig hdg hz
      rw [hln, hhd] at hz
      rw [if_neg hz] at hst
      cases hv : digS 0 ((s.drop a).take (k - a)) with
      | none =>
        rw [hv] at hst
        refine brP_true (by rw [n2 hv]; rfl) ?_
        refine fin1 ?_
        unfold oneR
        rw [hst]; rfl
      | some v =>
        rw [hv] at hst
        have hnv := n1 v hv
        refine brP_false (by rw [hnv]; rfl) ?_
        refine ⟨⟨by omega, by omega, by omega⟩, ?_⟩
        refine fin1 ?_
        unfold oneR
        rw [hst, hdn, hnv]; rfl
  refine brP_false (by simpa using h4) ?_
  refine PFun.call refSigns_c ?_
  obtain ⟨f1, f2⟩ := sgn_find s[a] (s.drop (a + 1)) h1 h2 h3 h4
  rw [← hdr] at f1 f2
  have hL : (twos ++ singles).length = 21 := rfl
  have t7 : twos.length = 7 := rfl
  have s14 : singles.length = 14 := rfl
  have tok : ∀ t ∈ twos ++ singles, 1 ≤ t.length ∧ t.length ≤ 2 := by decide
  refine SWp.loop (fun k : Nat => k ≤ 21 ∧ ((twos ++ singles).drop k).find? (fun t => t.isPrefixOf (s.drop a)) = (twos ++ singles).find? (fun t => t.isPrefixOf (s.drop a))) (fun k => ([(0, sv' s), (1, iv a), (11, .d (.sl ((twos ++ singles).map scell))), (12, iv k), (4, .ptr 0 0)], [.box [iv 0, sv' [], iv 0, iv 0]])) (fun k => 21 - k) 0 ⟨Nat.zero_le _, rfl⟩ (Le.same ⟨rfl, rfl, rfl, rfl, rfl, trivial⟩) (fun k hk => ?_)
  obtain ⟨hk21, hk⟩ := hk
  have hw1 : IntKind.i64.wrap ((k : Int) + 1) = ((k + 1 : Nat) : Int) := wrap_nat k (by omega)
  refine SWp.go pok (by kernel_rfl) ?_
  refine brP_split (fun h => ?_) (fun h => ?_)
  · have hlt : k < (twos ++ singles).length := by rw [hL]; simp at h; omega
    have htk := tok _ (List.getElem_mem hlt)
    generalize hte : (twos ++ singles)[k] = t at htk
    have hget : (twos ++ singles)[k]? = some t := by rw [List.getElem?_eq_getElem hlt, hte]
    have hat : ((twos ++ singles).drop k).find? (fun t => t.isPrefixOf (s.drop a)) = if t.isPrefixOf (s.drop a) = true then some t else ((twos ++ singles).drop (k + 1)).find? (fun t => t.isPrefixOf (s.drop a)) := by
      rw [List.drop_eq_getElem_cons hlt, hte, List.find?_cons]
      split <;> simp_all
    have hlen : t.isPrefixOf (s.drop a) = true → a + t.length ≤ s.length := fun hp => by
      have := (List.isPrefixOf_iff_prefix.1 hp).length_le
      rw [List.length_drop] at this; omega
    have hwl : IntKind.i64.wrap ((s.length : Int) - a) = ((s.length - a : Nat) : Int) := by rw [IntKind.wrap_i64]; omega
    have hwt : IntKind.i64.wrap ((a : Int) + (t.length : Int)) = ((a + t.length : Nat) : Int) := by rw [IntKind.wrap_i64]; omega
    refine PIdx.map hget ?_
    have no : ¬ t.isPrefixOf (s.drop a) = true → ((twos ++ singles).drop (k + 1)).find? (fun t => t.isPrefixOf (s.drop a)) = (twos ++ singles).find? (fun t => t.isPrefixOf (s.drop a)) := fun hn => by
      rw [← hk, hat, if_neg hn]
    by_cases hroom : a + t.length ≤ s.length
    · refine brP_true (by rw [hwl]; simp; omega) ?_
      refine PIdx.map hget ?_
      refine ⟨⟨by omega, by rw [hwt]; omega, by rw [hwt]; omega⟩, ?_⟩
      refine PIdx.map hget ?_
      have hcut : cutFrom (cutTo s (some (IntKind.i64.wrap ((a : Int) + (t.length : Int))))) (some (a : Int)) = (s.drop a).take t.length := by
        rw [hwt]
        simp only [cutTo, cutFrom, Int.toNat_natCast]
        rw [List.drop_take, Nat.add_sub_cancel_left]
      by_cases hp : t.isPrefixOf (s.drop a) = true
      · have hpt : (s.drop a).take t.length = t := by
          rw [List.isPrefixOf_iff_prefix, List.prefix_iff_eq_take] at hp
          exact hp.symm
        rw [hat, if_pos hp] at hk
        obtain ⟨g1, g2⟩ := f1 t hk.symm
        refine brP_true (by show (cutFrom (cutTo s (some (IntKind.i64.wrap ((a : Int) + (t.length : Int))))) (some (a : Int)) == t) = true; rw [hcut, hpt]; simp) ?_
        refine PIdx.map hget ?_
        refine fin1 ?_
        unfold oneR
        rw [g1]
        dsimp only
        rw [hpt]; rfl
      · refine brP_false (by
          show (cutFrom (cutTo s (some (IntKind.i64.wrap ((a : Int) + (t.length : Int))))) (some (a : Int)) == t) = false
          rw [hcut, beq_eq_false_iff_ne]
          exact fun e => hp (by rw [List.isPrefixOf_iff_prefix, List.prefix_iff_eq_take]; exact e.symm)) ?_
        exact ⟨k + 1, ⟨by rw [hL] at hlt; omega, no hp⟩, by omega, Le.same ⟨rfl, rfl, rfl, sint hw1, rfl, trivial⟩⟩
    · refine brP_false (by rw [hwl]; simp; omega) ?_
      exact ⟨k + 1, ⟨by rw [hL] at hlt; omega, no (fun hp => hroom (hlen hp))⟩, by omega, Le.same ⟨rfl, rfl, rfl, sint hw1, rfl, trivial⟩⟩
  · have hk' : (twos ++ singles).drop k = [] := List.drop_of_length_le (by rw [hL]; simp at h; omega)
    rw [hk'] at hk
    have := f2 hk.symm
    refine fin1 ?_
    unfold oneR
    rw [this]; rfl
end Go.Proofs.YtmflfcbebeikcaaGreat.Q

namespace Go.Proofs.YtmflfcbebeikcaaGreat.Q
open Go.RowKit
variable [Amb]

theorem stepT_some {w : Str} {e : Int} {n : Nat} {kv : Int × Int} (h : stepT w = (e, n, some kv)) : e = 0 := by
  unfold stepT at h
  repeat' (split at h)
  all_goals first
    | exact (congrArg Prod.fst h).symm
    | (exact absurd (congrArg (fun q => q.2.2) h) (by simp))
theorem stepT_none {w : Str} {e : Int} {n : Nat} (h1 : classS (w.headD 0).toNat ≠ 1) (h2 : classS (w.headD 0).toNat ≠ 2) (h : stepT w = (e, n, none)) : e ≠ 0 ∧ n = 0 := by
  unfold stepT at h
  rw [if_neg h1, if_neg h2] at h
  repeat' (split at h)
  all_goals first
    | (have h8 := congrArg Prod.fst h; have h9 := congrArg (fun q => q.2.1) h; dsimp only at h8 h9; omega)
    | (exact absurd (congrArg (fun q => q.2.2) h) (by simp))
theorem class_blank (b : UInt8) : classS b.toNat = 1 ↔ b = 32 ∨ b = 9 ∨ b = 13 ∨ b = 10 := by
  have h := all_u8 (fun b => decide (classS b.toNat = 1) == decide (b = 32 ∨ b = 9 ∨ b = 13 ∨ b = 10)) (by kernel_rfl) b
  have h := beq_iff_eq.1 h
  rw [← decide_eq_true_iff (p := classS b.toNat = 1), h, decide_eq_true_iff]
theorem class_note (b : UInt8) : classS b.toNat = 2 ↔ b = 35 := by
  have h := all_u8 (fun b => decide (classS b.toNat = 2) == decide (b = 35)) (by kernel_rfl) b
  have h := beq_iff_eq.1 h
  rw [← decide_eq_true_iff (p := classS b.toNat = 2), h, decide_eq_true_iff]
theorem u8_eq (c d : UInt8) : ((c.toNat : Int) == (d.toNat : Int)) = (c == d) := by
  rw [Bool.eq_iff_iff, beq_iff_eq, beq_iff_eq]
  exact ⟨fun h => UInt8.toNat_inj.1 (by omega), fun h => by rw [h]⟩
theorem refScan_c (s : Str) (hs : s.length < 1073741824) : PFun Tryz.prog 6 [sv' s] [] (tks (scanS s)) [] := by
  refine fn_sem pok 75 0 Tryz.func6 (by kernel_rfl) rfl rfl rfl rfl ?_
  refine SWp.go pok (by kernel_rfl) ?_
  unfold scanS
  refine brP_split (fun h => ?_) (fun h => ?_)
  · rw [if_pos (by simp at h; omega)]
    exact fin1 rfl
  have hlen : ¬ s.length > 20000 := by simp at h; omega
  rw [if_neg hlen]
  refine SWp.tipSlot 5 4 rfl ?_
  refine SWp.loop (fun q : Nat × List Tk × List (List D) => q.1 ≤ s.length ∧ q.2.2 = q.2.1.map Tk.c ∧ q.2.1.length ≤ q.1 ∧ ∃ f, s.length - q.1 < f ∧ scanF s f q.1 q.2.1 = scanF s (s.length + 1) 0 [])
    (fun q => ([(0, sv' s), (5, .gsl q.2.2 0), (6, iv q.1)], [.tip 4 q.2.1.length])) (fun q => s.length - q.1) (0, [], []) ⟨Nat.zero_le _, rfl, Nat.zero_le _, s.length + 1, by omega, rfl⟩ (Le.same ⟨rfl, rfl, rfl, trivial⟩) (fun q hq => ?_)
  obtain ⟨a, l, rows⟩ := q
  obtain ⟨ha, hr, hl, f, hf, he⟩ := hq
  dsimp only at ha hr hl hf he
  subst hr
  cases f with
  | zero => omega
  | succ f =>
    rw [scanF] at he
    refine SWp.go pok (by kernel_rfl) ?_
    refine brP_split (fun h => ?_) (fun h => ?_)
    · have hlt : a < s.length := by simpa using h
      rw [if_pos hlt] at he
      have hw1 : IntKind.i64.wrap ((a : Int) + 1) = ((a + 1 : Nat) : Int) := wrap_nat a (by omega)
      have hdr : s.drop a = s[a] :: s.drop (a + 1) := List.drop_eq_getElem_cons hlt
      have hnx := nextS_T s a l
      have u32 := u8_eq s[a] 32
      have u9 := u8_eq s[a] 9
      have u13 := u8_eq s[a] 13
      have u10 := u8_eq s[a] 10
      have u35 := u8_eq s[a] 35
      have round : ∀ n : Nat, (nextS s a l) = (0, a + n, l) → 0 < n → a + n ≤ s.length → ∃ f', s.length - (a + n) < f' ∧ scanF s f' (a + n) l = scanF s (s.length + 1) 0 [] := fun n hn h0 hle => by
        rw [hn, if_pos rfl] at he
        exact ⟨f, by omega, he⟩
      refine PIdx.at (get_at hlt) ?_
      by_cases hb : classS s[a].toNat = 1
      · have hst : stepT (s.drop a) = (0, 1, none) := by unfold stepT; rw [hdr, List.headD_cons, if_pos hb]
        rw [hst] at hnx
        obtain ⟨f', k1, k2⟩ := round 1 hnx (by decide) (by omega)
        have hb' := (class_blank _).1 hb
        by_cases g32 : s[a] = 32
        · refine brP_true (by show ((s[a].toNat : Int) == ((32 : UInt8).toNat : Int)) = true; rw [u32]; simpa using g32) ?_
          exact ⟨(a + 1, l, l.map Tk.c), ⟨by dsimp only; omega, rfl, by dsimp only; omega, f', k1, k2⟩, by dsimp only; omega, .inr ⟨[0], ⟨rfl, rfl⟩, rfl, rfl, rfl, sint hw1, trivial⟩⟩
        refine brP_false (by show ((s[a].toNat : Int) == ((32 : UInt8).toNat : Int)) = false; rw [u32]; simpa using g32) ?_
        by_cases g9 : s[a] = 9
        · refine brP_true (by show ((s[a].toNat : Int) == ((9 : UInt8).toNat : Int)) = true; rw [u9]; simpa using g9) ?_
          exact ⟨(a + 1, l, l.map Tk.c), ⟨by dsimp only; omega, rfl, by dsimp only; omega, f', k1, k2⟩, by dsimp only; omega, .inr ⟨[0], ⟨rfl, rfl⟩, rfl, rfl, rfl, sint hw1, trivial⟩⟩
        refine brP_false (by show ((s[a].toNat : Int) == ((9 : UInt8).toNat : Int)) = false; rw [u9]; simpa using g9) ?_
        by_cases g13 : s[a] = 13
        · refine brP_true (by show ((s[a].toNat : Int) == ((13 : UInt8).toNat : Int)) = true; rw [u13]; simpa using g13) ?_
          exact ⟨(a + 1, l, l.map Tk.c), ⟨by dsimp only; omega, rfl, by dsimp only; omega, f', k1, k2⟩, by dsimp only; omega, .inr ⟨[0], ⟨rfl, rfl⟩, rfl, rfl, rfl, sint hw1, trivial⟩⟩
        refine brP_false (by show ((s[a].toNat : Int) == ((13 : UInt8).toNat : Int)) = false; rw [u13]; simpa using g13) ?_
        have g10 : s[a] = 10 := by rcases hb' with h | h | h | h; exact absurd h g32; exact absurd h g9; exact absurd h g13; exact h
        refine brP_true (by show ((s[a].toNat : Int) == ((10 : UInt8).toNat : Int)) = true; rw [u10]; simpa using g10) ?_
        exact ⟨(a + 1, l, l.map Tk.c), ⟨by dsimp only; omega, rfl, by dsimp only; omega, f', k1, k2⟩, by dsimp only; omega, .inr ⟨[0], ⟨rfl, rfl⟩, rfl, rfl, rfl, sint hw1, trivial⟩⟩
      have nb := fun h => hb ((class_blank _).2 h)
      refine brP_false (by show ((s[a].toNat : Int) == ((32 : UInt8).toNat : Int)) = false; rw [u32]; simpa using fun h => nb (.inl h)) ?_
      refine brP_false (by show ((s[a].toNat : Int) == ((9 : UInt8).toNat : Int)) = false; rw [u9]; simpa using fun h => nb (.inr (.inl h))) ?_
      refine brP_false (by show ((s[a].toNat : Int) == ((13 : UInt8).toNat : Int)) = false; rw [u13]; simpa using fun h => nb (.inr (.inr (.inl h)))) ?_
      refine brP_false (by show ((s[a].toNat : Int) == ((10 : UInt8).toNat : Int)) = false; rw [u10]; simpa using fun h => nb (.inr (.inr (.inr h)))) ?_
      by_cases hn : classS s[a].toNat = 2
      · have hst : stepT (s.drop a) = (0, spanN notNl (s.drop a), none) := by unfold stepT; rw [hdr, List.headD_cons, if_neg hb, if_pos hn, ← hdr]
        rw [hst] at hnx
        have g35 := (class_note _).1 hn
        have hnl : notNl s[a].toNat = true := by rw [g35]; rfl
        have hsp := spanN_le notNl (s.drop a)
        rw [List.length_drop] at hsp
        have hpos : 0 < spanN notNl (s.drop a) := by rw [hdr, spanN, if_pos hnl]; omega
        obtain ⟨f', k1, k2⟩ := round (spanN notNl (s.drop a)) hnx hpos (by omega)
        refine brP_true (by show ((s[a].toNat : Int) == ((35 : UInt8).toNat : Int)) = true; rw [u35]; simpa using g35) ?_
        refine SWp.loop (fun k : Nat => a ≤ k ∧ k ≤ s.length ∧ spanF notNl k (s.drop k) = spanF notNl a (s.drop a)) (fun k => ([(0, sv' s), (5, .gsl (l.map Tk.c) 0), (6, iv k)], [.tip 4 l.length])) (fun k => s.length - k) a ⟨Nat.le_refl _, by omega, rfl⟩ (Le.same ⟨rfl, rfl, rfl, trivial⟩) (fun k hk => ?_)
        obtain ⟨hak, hj, hk⟩ := hk
        refine SWp.go pok (by kernel_rfl) ?_
        have out : spanF notNl a (s.drop a) = k → k = a + spanN notNl (s.drop a) := fun e => by rw [spanF_N] at e; omega
        refine brP_split (fun h => ?_) (fun h => ?_)
        · have hlt2 : k < s.length := by simpa using h
          have hat := spanF_at notNl hlt2
          refine PIdx.at (get_at hlt2) ?_
          refine brP_split (fun h3 => ?_) (fun h3 => ?_)
          · exact ⟨k + 1, ⟨by omega, hlt2, by rw [← hk, hat, if_pos (show notNl s[k].toNat = true from h3)]⟩, by omega, .inr ⟨[0], ⟨rfl, rfl⟩, rfl, rfl, rfl, sint (wrap_nat k (by omega)), trivial⟩⟩
          · have hsp2 : spanF notNl a (s.drop a) = k := by rw [← hk, hat, if_neg (by rw [show notNl s[k].toNat = false from h3]; simp)]
            have e := out hsp2
            subst e
            exact ⟨(a + spanN notNl (s.drop a), l, l.map Tk.c), ⟨by dsimp only; omega, rfl, by dsimp only; omega, f', k1, k2⟩, by dsimp only; omega, .inr ⟨[0], ⟨rfl, rfl⟩, rfl, rfl, rfl, rfl, trivial⟩⟩
        · have hk' : s.drop k = [] := List.drop_of_length_le (by simp at h; omega)
          have hsp2 : spanF notNl a (s.drop a) = k := by rw [← hk, hk']; rfl
          have e := out hsp2
          subst e
          exact ⟨(a + spanN notNl (s.drop a), l, l.map Tk.c), ⟨by dsimp only; omega, rfl, by dsimp only; omega, f', k1, k2⟩, by dsimp only; omega, .inr ⟨[0], ⟨rfl, rfl⟩, rfl, rfl, rfl, rfl, trivial⟩⟩
      refine brP_false (by show ((s[a].toNat : Int) == ((35 : UInt8).toNat : Int)) = false; rw [u35]; simpa using fun h => hn ((class_note _).2 h)) ?_
      refine PFun.call (refOne_c s a hlt hs hb hn) ?_
      have hno := next_ok (s := s) (a := a) (l := l) hlt
      have hs1 := fun e n kv => stepT_some (w := s.drop a) (e := e) (n := n) (kv := kv)
      have hs2 := fun e n => stepT_none (w := s.drop a) (e := e) (n := n) (by rw [hdr]; exact hb) (by rw [hdr]; exact hn)
      unfold oneR
      generalize hq : stepT (s.drop a) = q at hnx hs1 hs2 ⊢
      obtain ⟨e, n, o⟩ := q
      cases o with
      | none =>
        obtain ⟨h0, hn0⟩ := hs2 e n rfl
        subst hn0
        have hn1 : nextS s a l = (e, a + 0, l) := hnx
        rw [if_neg (by rw [hn1]; exact h0), hn1] at he
        dsimp only at he ⊢
        refine brP_true (by simpa using h0) ?_
        rw [← he]
        exact fin1 (by rw [Nat.add_zero]; rfl)
      | some kv =>
        obtain ⟨k, v⟩ := kv
        have h0 := hs1 e n (k, v) rfl
        subst h0
        have hn1 : nextS s a l = (0, a + n, l ++ [⟨k, (s.drop a).take n, v, a⟩]) := hnx
        rw [if_pos (by rw [hn1]), hn1] at he
        rw [hn1] at hno
        dsimp only at he hno ⊢
        obtain ⟨g1, g2, g3⟩ := hno rfl
        have hln : ((s.drop a).take n).length = n := by rw [List.length_take, List.length_drop]; omega
        have hwn : IntKind.i64.wrap ((a : Int) + (((s.drop a).take n).length : Int)) = ((a + n : Nat) : Int) := by rw [hln, IntKind.wrap_i64]; omega
        refine ⟨⟨by simp, RL_tk _, fun r hr => by simp at hr; subst hr; rfl, by simp; omega⟩, ?_⟩
        refine ⟨(a + n, l ++ [Tk.mk k ((s.drop a).take n) v a], (l ++ [Tk.mk k ((s.drop a).take n) v a]).map Tk.c), ⟨g2, rfl, by dsimp only; rw [List.length_append, List.length_singleton]; omega, f, by dsimp only; omega, he⟩, by dsimp only; omega, .inr ⟨[0], ⟨rfl, rfl⟩, ?_, rfl, ?_, sint hwn, trivial⟩⟩
        · simp only [List.length_append, List.length_map, List.length_cons, List.length_nil]; rfl
        · simp only [List.map_append, List.map_cons, List.map_nil]; rfl
    · have hge : a = s.length := by simp at h; omega
      subst hge
      rw [if_neg (Nat.lt_irrefl _)] at he
      refine ⟨⟨by simp, RL_tk _, fun r hr => by simp at hr; subst hr; rfl, by simp; omega⟩, ?_⟩
      rw [← he]
      exact fin1 (by simp [tks]; rfl)
end Go.Proofs.YtmflfcbebeikcaaGreat.Q

namespace Go.Proofs.YtmflfcbebeikcaaGreat.Q
open Go.RowKit
variable [Amb]
theorem form_ex {kind : Int} (h : kind = 2 ∨ kind = 3 ∨ kind = 4) : (formS kind).ex = true := by
  rcases h with rfl | rfl | rfl <;> rfl
theorem headOk_ex {kind : Int} {mon name : Str} {n : Int} {e : Ex} {len : Nat} (h : headOk kind mon name n e len = true) (hk : kind = 2 ∨ kind = 3 ∨ kind = 4) : checkS e = 0 := by
  unfold headOk at h
  rw [form_ex hk] at h
  repeat' (split at h <;> try (cases h))
  · exact eq_of_beq h
  · rename_i h2; exact absurd rfl h2
theorem stG_of {s : St} (hs : SF s) : s.ok = true → StG s := by
  induction hs with
  | @mk kind mon name n e blocks pl hm hn he hb hl k ih =>
    intro h
    rw [St.ok] at h
    simp only [Bool.and_eq_true] at h
    refine .mk (fun hk => ⟨checkS_good (headOk_ex h.1 hk), fun y hy => (he.2 y hy).1⟩) hb hl fun b hb' y hy => ih b hb' y hy ?_
    have h2 := h.2
    rw [St.okB_all] at h2
    have h3 := List.all_eq_true.1 h2 b hb'
    rw [St.okL_all] at h3
    exact List.all_eq_true.1 h3 y hy
theorem bdG_of {b : List St} (h : BF b) (hk : St.okL b = true) : BdG b := ⟨h.len, fun s hs => stG_of (h.fit s hs) (by rw [St.okL_all] at hk; exact List.all_eq_true.1 hk s hs)⟩
theorem pgG_of {p : Pg} (h : PgF p) (hc : checkP p = 0) : PgG p := by
  have hok : p.ok = true := by
    unfold checkP at hc
    split at hc
    · assumption
    · cases hc
  unfold Pg.ok at hok
  simp only [Bool.and_eq_true, decide_eq_true_eq, List.all_eq_true] at hok
  obtain ⟨⟨⟨h1, h2⟩, h3⟩, h4⟩ := hok
  refine ⟨by omega, by omega, fun m hm => ?_, fun r hr => ?_⟩
  · have hf := h.mons m hm
    have hm := h3 m hm
    unfold Mo.ok at hm
    simp only [Bool.and_eq_true, decide_eq_true_eq, List.all_eq_true] at hm
    refine ⟨hf.vlen, hf.mlen, fun f hf' => ?_⟩
    have hfo := hm.2 f hf'
    unfold Mt.ok at hfo
    simp only [Bool.and_eq_true] at hfo
    exact bdG_of (hf.meths f hf').body hfo.2
  · have hr' := h4 r hr
    unfold Ro.ok at hr'
    simp only [Bool.and_eq_true] at hr'
    exact bdG_of (h.roles r hr).body hr'.2
theorem checkP_two (p : Pg) : checkP p = 0 ∨ checkP p = 20 := by
  unfold checkP
  split
  · exact .inl rfl
  · exact .inr rfl
def derivesPS (l : List Tk) (p : Pg) : Bool := endedS l && (checkP p == 0) && derivesS l p
theorem derives_c (hM : @Amb.memo _ = gramMemo) {l : List Tk} (hl : l.length < 1073741824) {p : Pg} (hp : PgF p) : PFun Tryz.prog 10 [.d (.sl (l.map Tk.c)), p.v] [] (.d (.bool (derivesPS l p))) [] := by
  refine fn_sem pok 24 0 Tryz.func10 (by kernel_rfl) rfl rfl rfl rfl ?_
  unfold derivesPS
  refine SWp.then pok (by kernel_rfl) ?_
  refine SWp.seq ?_
  refine SWp.go pok (by kernel_rfl) ?_
  refine PFun.call (isEnded_c hl) ?_
  refine brP_split (fun h => ?_) (fun h => ?_)
  · refine fin1 (dbool ?_)
    have h : endedS l = false := by simpa using h
    rw [h]; rfl
  have h : endedS l = true := by simpa using h
  rw [h]
  refine PFun.call (check_c p hp) ?_
  rcases checkP_two p with hc | hc
  · rw [hc]
    refine SWp.then pok (by kernel_rfl) ?_
    refine PFun.call (newMatcher_c l) ?_
    refine SWp.toMemoB 2 0 rfl rfl ?_
    refine SWp.frz 1 rfl rfl ?_
    refine SWp.go pok (by kernel_rfl) ?_
    refine PFun.call (gprog_c hM hl (pgG_of hp hc) [0] (fun i hi => by simp at hi; omega)) ?_
    exact ⟨rfl, rfl⟩
  · rw [hc]
    exact ⟨rfl, rfl⟩
theorem derivesNil_c (e : Ex) : PFun Tryz.prog 13 [.fsl [], e.v] [] (.d (.bool false)) [] := by
  refine fn_sem pok 26 0 Tryz.func13 (by kernel_rfl) rfl rfl rfl rfl ?_
  refine SWp.go pok (by kernel_rfl) ?_
  refine PFun.call (isEnded_c (l := []) (by decide)) ?_
  exact ⟨rfl, rfl⟩
/-! ### some fixed ones -/
def lx (s : Str) : Ex := ⟨4, [97], s, 0, [], 0⟩
theorem lx_c (s : Str) : PFun Tryz.prog 14 [sv' s] [] (lx s).v [] := by
  refine fn_sem pok 5 0 Tryz.func14 (by kernel_rfl) rfl rfl rfl rfl ?_
  refine SWp.go pok (by kernel_rfl) ?_
  exact ⟨rfl, rfl⟩
theorem lx_fits {s : Str} (h : s.length < 1073741824) : (lx s).fits := ⟨by simp [lx, Ex.pre, Ex.pres], fun y hy => by
  have : y = lx s := by simpa [lx, Ex.pre, Ex.pres] using hy
  subst this
  exact ⟨by simp [lx], by simp [lx], h⟩⟩
def lp : Pg := ⟨[], [⟨[116], true, 0, [⟨1, [], [], 0, ⟨0, [], [], 0, [], 0⟩, [], 0⟩], 0⟩]⟩
theorem lp_f : PgF lp := ⟨fun m hm => by simp [lp] at hm, fun r hr => by
  simp [lp] at hr
  subst hr
  refine ⟨by decide, by decide, fun y hy => ?_⟩
  simp at hy
  subst hy
  refine .mk (by decide) (by decide) ⟨by decide, fun z hz => ?_⟩ (by decide) (by simp) (by simp)
  have : z = ⟨0, [], [], 0, [], 0⟩ := by simpa [Ex.pre, Ex.pres] using hz
  subst this
  exact ⟨by decide, by decide, by decide⟩⟩
def tA : List Tk := (scanS [40, 97, 46, 120, 41]).1
def tB : List Tk := (scanS [97, 46, 120, 32, 43, 32, 97, 46, 121]).1
def tC : List Tk := (scanS [116, 104, 114, 101, 97, 100, 32, 116, 32, 42, 32, 123, 32, 115, 107, 105, 112, 59, 32, 125]).1
theorem lA : tA.length < 1073741824 := of_decide_eq_true (by kernel_rfl)
theorem lB : tB.length < 1073741824 := of_decide_eq_true (by kernel_rfl)
theorem lC : tC.length < 1073741824 := of_decide_eq_true (by kernel_rfl)
theorem gfA : derivesXS tA (lx [120]) = true := by kernel_rfl
theorem gfB : derivesXS tB (lx [120]) = false := by kernel_rfl
theorem gfC : derivesXS tA (lx [121]) = false := by kernel_rfl
theorem gfD : derivesPS tC lp = true := by kernel_rfl
theorem gfE : derivesPS tA lp = false := by kernel_rfl
theorem live05_c (hM : @Amb.memo _ = gramMemo) : PFun Tryz.prog 5 [] [] (.d (.bool true)) [] := by
  have c1 := derivesExpr_c hM lA (lx_fits (s := [120]) (by decide))
  have c2 := derivesExpr_c hM lB (lx_fits (s := [120]) (by decide))
  have c3 := derivesExpr_c hM lA (lx_fits (s := [121]) (by decide))
  have c4 := derives_c hM lC lp_f
  have c5 := derives_c hM lA lp_f
  rw [gfA] at c1
  rw [gfB] at c2
  rw [gfC] at c3
  rw [gfD] at c4
  rw [gfE] at c5
  refine fn_sem pok 62 0 Tryz.func5 (by kernel_rfl) rfl rfl rfl rfl ?_
  refine SWp.go pok (by kernel_rfl) ?_
  refine PFun.call (refScan_c [40, 97, 46, 120, 41] (by decide)) ?_
  refine PFun.call (refScan_c [97, 46, 120, 32, 43, 32, 97, 46, 121] (by decide)) ?_
  refine PFun.call (refScan_c [116, 104, 114, 101, 97, 100, 32, 116, 32, 42, 32, 123, 32, 115, 107, 105, 112, 59, 32, 125] (by decide)) ?_
  refine PFun.call (lx_c [120]) ?_
  refine PFun.call c1 ?_
  refine PFun.call (lx_c [120]) ?_
  refine PFun.call c2 ?_
  refine PFun.call (lx_c [121]) ?_
  refine PFun.call c3 ?_
  refine PFun.call c4 ?_
  refine PFun.call c5 ?_
  refine PFun.call (lx_c [120]) ?_
  refine PFun.call (derivesNil_c _) ?_
  exact ⟨rfl, rfl⟩
end Go.Proofs.YtmflfcbebeikcaaGreat.Q

namespace Go.Proofs.YtmflfcbebeikcaaGreat.Q
open Go.RowKit
theorem rd_Tk (fuel : Nat) : RdD Tryz.prog fuel 60 (fun r => ∃ x : Tk, True ∧ r = x.c) := by
  letI : Amb := ambD
  refine (rdD_struct (fs := [(3, 0), (9, 1), (2, 2), (3, 3)]) (by kernel_rfl) (sz := 1 + (1 + (1 + 1))) (by kernel_rfl) fuel fun m hm =>
    frD_cons (by kernel_rfl) (rd_int m) (frD_cons (by kernel_rfl) (rd_str m) (frD_cons (by kernel_rfl) (rd_int64 m) (frD_last (by kernel_rfl) (rd_int m))))).mono ?_
  rintro r ⟨_, _, ⟨kind, h1, rfl⟩, ⟨_, _, ⟨text, h2, rfl⟩, ⟨_, _, ⟨n, h3, rfl⟩, ⟨pl, h4, rfl⟩, rfl⟩, rfl⟩, rfl⟩
  exact ⟨⟨kind, text, n, pl⟩, trivial, rfl⟩
theorem rd_Tks (fuel : Nat) : RdD Tryz.prog fuel 28 (fun r => ∃ x : List Tk, True ∧ r = [.sl (x.map Tk.c)]) := by
  letI : Amb := ambD
  refine (rdD_slice (sz := 4) (e := 60) (by kernel_rfl) (by kernel_rfl) (by decide) fuel fun m _ => rd_Tk m).mono ?_
  rintro r ⟨rows, h1, h2, rfl⟩
  obtain ⟨l, rfl, _⟩ := rows_map h1
  exact ⟨l, trivial, rfl⟩
/-- Nothing is called back; the matcher remembers. -/
abbrev ambG : Amb where
  tabs := []
  memo := gramMemo
  memo_mono := fun h k => gramMemo_mono h k
  l := 0
  J := fun _ _ _ _ => False
  ok := fun _ _ => False
  go := fun _ => true
  lt := fun h => h.elim
  stable := fun h => h.elim
  yield := fun h => h.elim
theorem ambG_sit (W : World) : @Sit ambG (allG W) W (fun _ _ => none) (hp []) :=
  @Sit.mk ambG _ _ _ _ ⟨fun _ _ _ h => .inl (allG_cell h), fun _ h => by cases h⟩ (fun i ob h => by cases h) (fun i j ob ob' b _ h => by cases h) (fun _ _ _ => rfl)
section
variable {H : Type} {enc : TypeId × Value → H} {d : DataW H} {p : List MemPlace} {base : Nat}
theorem read_Tks (W : World) (v : Value) (hv : Value.okWide Tryz.prog W .any base 28 v) (h : DataW.Trod enc Tryz.prog W 0 (fun _ => true) true 28 v d p) : ∃ x : List Tk, True ∧ (V.d (.sl (x.map Tk.c))).rep (allG W) (fun _ _ => none) v := by
  obtain ⟨a, l, c, rfl⟩ := WideShapes.okWide_slice (e := 60) (by kernel_rfl) hv
  obtain ⟨r, ⟨x, hx, rfl⟩, u, us, e, h1, _⟩ := read_one rd_Tks rfl h
  injection e with e1 e2
  exact ⟨x, hx, by rw [e1]; exact h1⟩
end
end Go.Proofs.YtmflfcbebeikcaaGreat.Q
