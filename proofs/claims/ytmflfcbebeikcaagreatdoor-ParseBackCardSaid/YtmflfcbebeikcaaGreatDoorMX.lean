/- What is parsed has its shape, is small, and not too deep; the law of programs parsed back. No condition. -/
import Derived.Test.YtmflfcbebeikcaaGreatDoorMU
import Derived.Test.YtmflfcbebeikcaaGreatDoorMN
import Derived.Test.YtmflfcbebeikcaaGreatDoorMV
import Derived.Test.YtmflfcbebeikcaaGreatDoorMO
set_option linter.unusedVariables false
set_option linter.unusedSectionVars false
set_option linter.unnecessarySimpa false
set_option linter.unusedSimpArgs false
set_option maxRecDepth 100000
set_option maxHeartbeats 4000000
namespace Go.Proofs.YtmflfcbebeikcaaGreatDoor.Q
open Go.RowKit
variable [Amb] [Pow]
/-! ### tokens of a text -/
/-- A token as the scanner gives them. -/
def GoodT (t : Tk) : Prop := (t.kind = 1 → isName t.text = true) ∧ (t.kind = 2 → 0 ≤ t.n ∧ t.n < 9223372036854775808)
def GoodL (l : List Tk) : Prop := ∀ t ∈ l, GoodT t
theorem GoodL.tail {t : Tk} {l : List Tk} (h : GoodL (t :: l)) : GoodL l := fun u hu => h u (List.mem_cons_of_mem _ hu)
theorem GoodL.drop {ts l : List Tk} (h : GoodL (ts ++ l)) : GoodL l := fun u hu => h u (List.mem_append_right _ hu)
theorem GoodL.take {ts l : List Tk} (h : GoodL (ts ++ l)) : GoodL ts := fun u hu => h u (List.mem_append_left _ hu)
theorem digS_pos : ∀ (l : Str) (n v : Int), 0 ≤ n → n < 9223372036854775808 → (∀ b ∈ l, isDig b.toNat = true) → digS n l = some v → 0 ≤ v ∧ v < 9223372036854775808
  | [], n, v, h0, h1, _, h => by rw [digS] at h; injection h with h; omega
  | b :: r, n, v, h0, h1, hd, h => by
    rw [digS] at h
    split at h
    · cases h
    · rename_i hle
      have hb := hd b (by simp)
      have hbb : 48 ≤ b.toNat ∧ b.toNat ≤ 57 := by
        have hc := dig_class hb
        unfold classS at hc
        split at hc
        · omega
        split at hc
        · omega
        split at hc
        · omega
        split at hc
        · omega
        split at hc
        · omega
        split at hc
        · omega
        split at hc
        · omega
        split at hc
        · omega
        · split at hc <;> omega
      have hq : n ≤ (9223372036854775807 - ((b.toNat : Int) - 48)).tdiv 10 := by omega
      rw [Int.tdiv_eq_ediv_of_nonneg (by omega)] at hq
      exact digS_pos r _ v (by omega) (by omega) (fun c hc => hd c (List.mem_cons_of_mem _ hc)) h
theorem spanN_dig {p : Int → Bool} : ∀ {l : Str}, spanN p l = l.length → ∀ b ∈ l, p b.toNat = true
  | [], _, b, hb => by simp at hb
  | c :: l, h, b, hb => by
    rw [spanN] at h
    split at h
    · rename_i hc
      rcases List.mem_cons.1 hb with rfl | hb
      · exact hc
      · exact spanN_dig (by simpa using h) b hb
    · simp at h
theorem tok_good {k v : Int} {x : Str} {a : Int} (h : isTok k x v) : GoodT ⟨k, x, v, a⟩ := by
  obtain ⟨hx, h⟩ := h
  unfold stepT at h
  refine ⟨fun hk => ?_, fun hk => ?_⟩
  · have hk : k = 1 := hk
    subst hk
    split at h
    · exact absurd (congrArg (fun q => q.2.2) h) (by simp)
    split at h
    · exact absurd (congrArg (fun q => q.2.2) h) (by simp)
    split at h
    · rename_i h3
      split at h
      · exact absurd (congrArg (fun q => q.2.2) h) (by simp)
      · rename_i h32
        have hs : spanN inNameS x = x.length := by
          split at h <;> exact congrArg (fun q => q.2.1) h
        rw [hs, List.take_length] at h
        split at h
        · exact absurd (congrArg (fun q => q.2.2) h) (by simp)
        · rename_i hw
          show isName x = true
          unfold isName
          rw [spanF_N, hs]
          have hw : isWord x = false := by simpa using hw
          have hl : x.length ≤ 32 := by omega
          have h3' : (classS ((x.headD 0).toNat : Int) == 3) = true := by rw [h3]; rfl
          rw [hw, h3', decide_eq_true hl, beq_eq_false_iff_ne.2 hx]
          simp
    split at h
    · split at h
      · exact absurd (congrArg (fun q => q.2.2) h) (by simp)
      · split at h
        · exact absurd (congrArg (fun q => q.2.2) h) (by simp)
        · exact absurd (congrArg (fun q => q.2.2) h) (by simp)
    split at h
    · split at h
      · exact absurd (congrArg (fun q => q.2.2) h) (by simp)
      · split at h
        · exact absurd (congrArg (fun q => q.2.2) h) (by simp)
        · exact absurd (congrArg (fun q => q.2.2) h) (by simp)
    · exact absurd (congrArg (fun q => q.2.2) h) (by simp)
  · have hk : k = 2 := hk
    subst hk
    show 0 ≤ v ∧ v < 9223372036854775808
    split at h
    · exact absurd (congrArg (fun q => q.2.2) h) (by simp)
    split at h
    · exact absurd (congrArg (fun q => q.2.2) h) (by simp)
    split at h
    · split at h
      · exact absurd (congrArg (fun q => q.2.2) h) (by simp)
      · split at h
        · exact absurd (congrArg (fun q => q.2.2) h) (by simp)
        · exact absurd (congrArg (fun q => q.2.2) h) (by simp)
    split at h
    · split at h
      · exact absurd (congrArg (fun q => q.2.2) h) (by simp)
      · split at h
        · rename_i w hw
          have hs : spanN isDig x = x.length := congrArg (fun q => q.2.1) h
          have hv : w = v := by have := congrArg (fun q => q.2.2) h; simpa using this
          rw [hs, List.take_length] at hw
          exact digS_pos x 0 v (by decide) (by decide) (spanN_dig hs) (hv ▸ hw)
        · exact absurd (congrArg (fun q => q.2.2) h) (by simp)
    split at h
    · split at h
      · exact absurd (congrArg (fun q => q.2.2) h) (by simp)
      · split at h
        · exact absurd (congrArg (fun q => q.2.2) h) (by simp)
        · exact absurd (congrArg (fun q => q.2.2) h) (by simp)
    · exact absurd (congrArg (fun q => q.2.2) h) (by simp)
theorem Lx.good {w : Str} {a : Nat} {ts : List Tk} (h : Lx w a ts) : GoodL ts := by
  induction h with
  | nil a => intro t ht; simp at ht
  | skip hw h g ih => exact ih
  | tok hw h g ih =>
    intro t ht
    rcases List.mem_cons.1 ht with rfl | ht
    · exact tok_good (tok_self hw h).1
    · exact ih t ht
theorem scan_good {s : Str} (h : (scanS s).2.1 = 0) : GoodL (scanS s).1 := by
  obtain ⟨_, ts, h1, h2⟩ := scanS_Lx h
  rw [h2]
  intro t ht
  rcases List.mem_append.1 ht with ht | ht
  · exact h1.good t ht
  · rw [List.mem_singleton.1 ht]
    exact ⟨fun h => absurd h (by show ¬ (5 : Int) = 1; decide), fun h => absurd h (by show ¬ (5 : Int) = 2; decide)⟩
/-! ### expressions -/
theorem nm_good {t : Tk} {s : Str} (h : GoodT t) (k : t.nm s) : isName s = true := by
  have := h.1 k.1
  rw [k.2] at this; exact this
theorem nu_good {t : Tk} {n : Int} (h : GoodT t) (k : t.nu n) : 0 ≤ n ∧ R64 n := by
  have := h.2 k.1
  rw [k.2] at this
  exact ⟨this.1, by unfold R64; omega⟩
theorem ok_cons {e : Ex} (h : isPartS e = true) (hn : R64 e.n) (hk : ∀ y ∈ e.kids, PrOk y) : PrOk e := by
  refine ⟨fun y hy => ?_, fun y hy => ?_⟩ <;> rw [e.pre_eq, Ex.pres_map] at hy <;> rcases List.mem_cons.1 hy with rfl | hy
  · exact h
  · obtain ⟨z, hz, hyz⟩ := List.mem_flatMap.1 hy
    exact (hk z hz).part y hyz
  · exact hn
  · obtain ⟨z, hz, hyz⟩ := List.mem_flatMap.1 hy
    exact (hk z hz).num y hyz
theorem r64_0 : R64 0 := by unfold R64; decide
theorem part_mk {op n pl : Int} {kids : List Ex} (hk : (kids.length : Int) = partsS op) (h4 : op ≠ 4) (h0 : 0 ≤ n) (hn : op = 1 ∨ op = 7 ∨ n = 0) : isPartS ⟨op, [], [], n, kids, pl⟩ = true := by
  unfold isPartS
  have e4 : (op == 4) = false := by simpa using h4
  dsimp only
  rw [e4, hk]
  simp only [beq_self_eq_true, cond_false, Bool.and_self, Bool.true_and, decide_eq_true h0]
  rcases hn with rfl | rfl | rfl <;> simp
theorem DE.ok {L : Nat} {ts : List Tk} {e : Ex} {d : Nat} (h : DE L ts e d) : L ≤ 6 → GoodL ts → PrOk e ∧ e.ns L ≤ d ∧ e.pre.length ≤ ts.length := by
  induction h with
  | @par L t u ts e d ht h hu ih =>
    intro hL hg
    obtain ⟨h1, h2, h3⟩ := ih (by decide) (GoodL.take (GoodL.tail hg))
    refine ⟨h1, ?_, by simp; omega⟩
    have hl := levelS_le e.op
    unfold Ex.ns atN at h2 ⊢
    dsimp only at h2 ⊢
    rw [if_neg (by show ¬ levelS e.op < (1 : Nat); omega)] at h2
    split <;> omega
  | @num L t n pl ht =>
    intro hL hg
    obtain ⟨h1, h2⟩ := nu_good (hg t (by simp)) ht
    refine ⟨ok_cons (part_mk rfl (by decide) h1 (.inl rfl)) h2 (by simp), ?_, by simp [Ex.pre_eq, Ex.pres_map]⟩
    unfold Ex.ns atN
    dsimp only
    rw [if_neg (by show ¬ (6 : Int) < L; omega)]
    exact Int.le_refl _
  | @tru L t pl ht =>
    intro hL hg
    refine ⟨ok_cons (part_mk rfl (by decide) (Int.le_refl _) (.inr (.inr rfl))) r64_0 (by simp), ?_, by simp [Ex.pre_eq, Ex.pres_map]⟩
    unfold Ex.ns atN
    dsimp only
    rw [if_neg (by show ¬ (6 : Int) < L; omega)]
    exact Int.le_refl _
  | @fls L t pl ht =>
    intro hL hg
    refine ⟨ok_cons (part_mk rfl (by decide) (Int.le_refl _) (.inr (.inr rfl))) r64_0 (by simp), ?_, by simp [Ex.pre_eq, Ex.pres_map]⟩
    unfold Ex.ns atN
    dsimp only
    rw [if_neg (by show ¬ (6 : Int) < L; omega)]
    exact Int.le_refl _
  | @var L t u v m n pl ht hu hv =>
    intro hL hg
    have h1 := nm_good (hg t (by simp)) ht
    have h2 := nm_good (hg v (by simp)) hv
    refine ⟨ok_cons ?_ r64_0 (by simp), ?_, by simp [Ex.pre_eq, Ex.pres_map]⟩
    · unfold isPartS
      dsimp only
      rw [h1, h2]; rfl
    · unfold Ex.ns atN
      dsimp only
      rw [if_neg (by show ¬ (6 : Int) < L; omega)]
      exact Int.le_refl _
  | @neg L t ts e d pl ht h ih =>
    intro hL hg
    obtain ⟨h1, h2, h3⟩ := ih (by decide) (GoodL.tail hg)
    refine ⟨ok_cons (part_mk rfl (by decide) (Int.le_refl _) (.inr (.inr rfl))) r64_0 (by simpa using h1), ?_, by rw [Ex.pre_eq, Ex.pres_map]; simp; omega⟩
    unfold Ex.ns atN
    dsimp only
    rw [if_neg (by show ¬ (6 : Int) < L; omega), Ex.bn, Ex.bns, Ex.bns]
    show 1 + e.ns (6 : Nat) ≤ ((d + 1 : Nat) : Int)
    omega
  | @mul L t u ts n e d pl ht hu h ih =>
    intro hL hg
    obtain ⟨h1, h2, h3⟩ := ih (by decide) (GoodL.tail (GoodL.tail hg))
    obtain ⟨g1, g2⟩ := nu_good (hg t (by simp)) ht
    refine ⟨ok_cons (part_mk rfl (by decide) g1 (.inr (.inl rfl))) g2 (by simpa using h1), ?_, by rw [Ex.pre_eq, Ex.pres_map]; simp; omega⟩
    unfold Ex.ns atN
    dsimp only
    rw [if_neg (by show ¬ (6 : Int) < L; omega), Ex.bn, Ex.bns, Ex.bns]
    show 1 + e.ns (6 : Nat) ≤ ((d + 1 : Nat) : Int)
    omega
  | @not L t ts e d pl hL3 ht h ih =>
    intro hL hg
    obtain ⟨h1, h2, h3⟩ := ih (by decide) (GoodL.tail hg)
    refine ⟨ok_cons (part_mk rfl (by decide) (Int.le_refl _) (.inr (.inr rfl))) r64_0 (by simpa using h1), ?_, by rw [Ex.pre_eq, Ex.pres_map]; simp; omega⟩
    unfold Ex.ns atN
    dsimp only
    rw [if_neg (by show ¬ (3 : Int) < L; omega), Ex.bn, Ex.bns, Ex.bns]
    show 1 + e.ns (3 : Nat) ≤ ((d + 1 : Nat) : Int)
    omega
  | @bin L op rl l r s t ts us e f d g pl hr hLr h1 ht h2 i1 i2 =>
    intro hL hg
    have hlr : op ≠ 4 ∧ partsS op = 2 ∧ levelS op = rl ∧ leftS op = l ∧ rightS op = r ∧ l ≤ 6 ∧ r ≤ 6 ∧ 8 ≤ op := by
      simp only [rules, List.mem_cons, Prod.mk.injEq, List.not_mem_nil, or_false] at hr
      rcases hr with h | h | h | h | h | h | h | h | h | h <;> obtain ⟨rfl, rfl, rfl, rfl, rfl⟩ := h <;> decide
    obtain ⟨o4, o2, q1, q2, q3, q4, q5, o8⟩ := hlr
    obtain ⟨a1, a2, a3⟩ := i1 q4 (GoodL.take hg)
    obtain ⟨b1, b2, b3⟩ := i2 q5 (GoodL.tail (GoodL.drop hg))
    refine ⟨ok_cons (part_mk (by rw [o2]; rfl) o4 (Int.le_refl _) (.inr (.inr rfl))) r64_0 (fun y hy => by simp at hy; rcases hy with rfl | rfl; exact a1; exact b1), ?_, by rw [Ex.pre_eq, Ex.pres_map]; simp; omega⟩
    unfold Ex.ns atN
    dsimp only
    rw [if_neg (by omega), Ex.bn, Ex.bns, Ex.bns, Ex.bns]
    show max (e.ns (leftS op)) (f.ns (rightS op)) ≤ ((max d g : Nat) : Int)
    rw [q2, q3]
    omega
end Go.Proofs.YtmflfcbebeikcaaGreatDoor.Q

namespace Go.Proofs.YtmflfcbebeikcaaGreatDoor.Q
open Go.RowKit
variable [Amb] [Pow]
/-! ### readers that have not failed -/
structure Gd (r : Rd) (a o : Int) (l : List Tk) : Prop where
  e : r = rd a o l
  t : Tl l
  g : GoodL l
theorem Gd.tail {a o : Int} {t : Tk} {l : List Tk} {r : Rd} (h : Gd r a o (t :: l)) (hl : Tl l) {r' : Rd} (e : r' = rd a o l) : Gd r' a o l := ⟨e, hl, h.g.tail⟩
theorem Gd.m {r : Rd} {a o : Int} {l : List Tk} (h : Gd r a o l) : r.m = l.length := by rw [h.e]; rfl
theorem Gd.code {r : Rd} {a o : Int} {l : List Tk} (h : Gd r a o l) : r.code = 0 := by rw [h.e]
theorem Gd.must {r : Rd} {a o : Int} {l : List Tk} (h : Gd r a o l) {s : Str} (hc : (r.must s).code = 0) : ∃ l', Gd (r.must s) a o l' ∧ l'.length + 1 = l.length := by
  rw [h.e] at hc
  obtain ⟨t, rest, rfl, _, h2, h3⟩ := must_inv h.t hc
  exact ⟨rest, by rw [h.e]; exact ⟨h3, h2, h.g.tail⟩, rfl⟩
theorem Gd.name {r : Rd} {a o : Int} {l : List Tk} (h : Gd r a o l) (hc : r.name.2.code = 0) : ∃ l', Gd r.name.2 a o l' ∧ l'.length + 1 = l.length ∧ isName r.name.1.1 = true := by
  rw [h.e] at hc
  obtain ⟨t, rest, rfl, k, h2, h3⟩ := name_inv h.t hc
  exact ⟨rest, by rw [h.e, h3]; exact ⟨rfl, h2, h.g.tail⟩, rfl, by rw [h.e, h3]; exact (h.g t (by simp)).1 k⟩
theorem Gd.pair {r : Rd} {a o : Int} {l : List Tk} (h : Gd r a o l) (hc : r.pair.2.code = 0) : ∃ l', Gd r.pair.2 a o l' ∧ l'.length + 1 ≤ l.length ∧ isName r.pair.1.1 = true ∧ isName r.pair.1.2 = true := by
  rw [h.e] at hc
  obtain ⟨t, u, v, rest, rfl, k, _, k2, h2, h3⟩ := pair_inv h.t hc
  exact ⟨rest, by rw [h.e, h3]; exact ⟨rfl, h2, h.g.tail.tail.tail⟩, by simp, by rw [h.e, h3]; exact (h.g t (by simp)).1 k, by rw [h.e, h3]; exact (h.g v (by simp)).1 k2⟩
theorem Gd.expr {r : Rd} {a o : Int} {l : List Tk} (h : Gd r a o l) (h0 : 0 ≤ o) (h1 : o ≤ 64) (hc : r.expr.2.code = 0) : ∃ l', Gd r.expr.2 a o l' ∧ PrOk r.expr.1 ∧ o + r.expr.1.ns 1 ≤ 64 ∧ r.expr.1.pre.length + l'.length ≤ l.length := by
  rw [h.e] at hc
  obtain ⟨ts, rest, d, rfl, h2, h3, h4, h5⟩ := expr_sound h0 h1 h.t hc
  obtain ⟨g1, g2, g3⟩ := h4.ok (by decide) h.g.take
  rw [h.e]
  refine ⟨rest, ⟨h3, h2, h.g.drop⟩, g1, ?_, by rw [List.length_append]; omega⟩
  have g2 : (rd a o (ts ++ rest)).expr.1.ns 1 ≤ d := g2
  omega
theorem Gd.take {r : Rd} {a o : Int} {l : List Tk} (h : Gd r a o l) (hk : r.next.kind ≠ 5) (hk0 : r.next.kind ≠ 0) : ∃ l', Gd r.take a o l' ∧ l'.length + 1 = l.length := by
  cases l with
  | nil => exact absurd rfl h.t.ne
  | cons t l =>
    rw [h.e, rd_next] at hk
    have hl := h.t.next hk
    exact ⟨l, ⟨by rw [h.e]; exact rd_take a o t hl.ne, hl, h.g.tail⟩, rfl⟩
theorem is_kind {r : Rd} {s : Str} (h : r.is s = true) : r.next.kind ≠ 5 ∧ r.next.kind ≠ 0 := by
  unfold Rd.is at h
  simp only [Bool.and_eq_true, Bool.or_eq_true, beq_iff_eq] at h
  omega
theorem Gd.takeIs {r : Rd} {a o : Int} {l : List Tk} (h : Gd r a o l) {s : Str} (hi : r.is s = true) : ∃ l', Gd r.take a o l' ∧ l'.length + 1 = l.length := h.take (is_kind hi).1 (is_kind hi).2
theorem Gd.enter {r : Rd} {a o : Int} {l : List Tk} (h : Gd r a o l) {s : Str} (hi : r.is s = true) (hc : r.enter.code = 0) : o < 64 ∧ ∃ l', Gd r.enter a (o + 1) l' ∧ l'.length + 1 = l.length := by
  cases l with
  | nil => exact absurd rfl h.t.ne
  | cons t l =>
    have hk := (is_kind hi).1
    rw [h.e, rd_next] at hk
    have hl := h.t.next hk
    rw [h.e] at hc
    by_cases h64 : 64 ≤ o
    · have := (rd_enter_deep a t l h64).1; omega
    · exact ⟨by omega, l, ⟨by rw [h.e]; exact rd_enter a t hl.ne (by omega), hl, h.g.tail⟩, rfl⟩
theorem Gd.leave {r : Rd} {a o : Int} {l : List Tk} (h : Gd r a (o + 1) l) : Gd r.leave a o l := ⟨by rw [h.e, rd_leave], h.t, h.g⟩
theorem Gd.ok {r : Rd} {a o : Int} {l : List Tk} (h : Gd r a o l) (h0 : 0 ≤ o) (h1 : o ≤ 64) : r.ok := by rw [h.e]; exact h.t.ok h0 h1
/-! ### what has failed stays -/
theorem bad_enter {r : Rd} (h : r.code ≠ 0) : r.enter.code ≠ 0 := by
  have h1 : (r.more 1).code ≠ 0 := h
  unfold Rd.enter Rd.deep
  split
  · rw [bad_fail h, bad_take h1]; exact h1
  · rw [bad_take h1]; exact h1
theorem bad_wait {r : Rd} (h : r.code ≠ 0) : r.wait.2 = r := by unfold Rd.wait; rw [bad_next h, if_neg (by decide)]
theorem bad_set {r : Rd} (h : r.code ≠ 0) : r.set_.2 = r := by
  unfold Rd.set_
  dsimp only
  have h1 := bad_pair h
  rw [h1, bad_must h]
  have h2 : r.expr.2 = r := bad_bin h 0
  rw [h2, bad_must h]
theorem bad_simple {r : Rd} (h : r.code ≠ 0) (k pl : Int) : (r.simple k pl).2 = r := by
  unfold Rd.simple
  have h1 := bad_pair h
  have h2 : r.name.2 = r := by rw [bad_name h]
  split
  · dsimp only; rw [h1, bad_must h]
  split
  · dsimp only; rw [h2, bad_wait h, bad_must h]
  split
  · dsimp only; rw [h2, bad_must h]
  · dsimp only; rw [bad_must h]
theorem bad_head {r : Rd} (h : r.code ≠ 0) (k : Int) : (r.head k).2 = r := by
  unfold Rd.head
  have h2 : r.name.2 = r := by rw [bad_name h]
  split
  · exact bad_bin h 0
  split
  · exact h2
  · rfl
theorem bad_block {r : Rd} (h : r.code ≠ 0) : r.block.2 = r := by
  rw [show r.block = blockF (8 * r.m + 2 + 1) r from rfl, blockF, if_neg (bad_is h _), bad_fail h]
theorem bad_ors {r : Rd} (h : r.code ≠ 0) (l : List (List St)) : r.ors l = (l, r) := by
  rw [show r.ors l = orF (8 * r.m + 3 + 1) l r from rfl, orF, if_neg (bad_is h _)]
theorem bad_stmts {r : Rd} (h : r.code ≠ 0) (l : List St) : r.stmts l = (l, r) := by
  rw [show r.stmts l = stmtsF (8 * r.m + 1 + 1) l r from rfl, stmtsF, if_neg (fun k => h k.1)]
/-! ### results -/
/-- A statement that was parsed at a depth. -/
structure RS (y : St) (o : Int) : Prop where
  s : SmS y
  num : StNum y
  ok : y.ok = true
  d : ∀ n, n ≤ 64 → y.nsS o n ≤ 64
structure RL' (b : List St) (o : Int) : Prop where
  all : ∀ y ∈ b, RS y o
  len : b.length ≤ 10000
theorem RL'.d {b : List St} {o : Int} (h : RL' b o) : ∀ n, n ≤ 64 → St.nsL b o n ≤ 64 := by
  have key : ∀ l : List St, (∀ y ∈ l, RS y o) → ∀ n, n ≤ 64 → St.nsL l o n ≤ 64 := by
    intro l
    induction l with
    | nil => intro _ n hn; rw [St.nsL]; exact hn
    | cons a r ih => intro hl n hn; rw [St.nsL]; exact ih (fun y hy => hl y (List.mem_cons_of_mem _ hy)) _ ((hl a (by simp)).d n hn)
  exact key b h.all
theorem headOk_mk {kind : Int} {mon name : Str} {n : Int} {e : Ex} {len : Nat} {f : Fo} (hf : formS kind = f) (h1 : isKind kind = true) (h2 : f.fewest ≤ (len : Int)) (h3 : (len : Int) ≤ f.most) (h4 : isNameW mon f.mon = true) (h5 : isNameW name f.name = true) (h6 : 0 ≤ n) (h7 : f.num = false → n = 0) (h8 : (if f.ex = true then (checkS e == 0) else isNoneS e) = true) : headOk kind mon name n e len = true := by
  unfold headOk
  rw [hf, if_neg (by rw [h1]; simp), if_neg (by omega), if_neg (by omega), if_neg (by rw [h4]; simp), if_neg (by rw [h5]; simp), if_neg (by omega), if_neg (fun k => k.2 (h7 k.1))]
  exact h8
theorem checkS_of {e : Ex} (h : PrOk e) : checkS e = 0 := by
  unfold checkS
  rw [List.all_eq_true.2 h.part]; rfl
theorem pre_trans {e y z : Ex} (hz : z ∈ y.pre) (hy : y ∈ e.pre) : z ∈ e.pre := by
  have key : ∀ (N : Nat) (e : Ex), e.pre.length ≤ N → y ∈ e.pre → z ∈ e.pre := by
    intro N
    induction N with
    | zero => intro e h; have := e.pre_pos; omega
    | succ N ih =>
      intro e hN hy
      rw [e.pre_eq, Ex.pres_map] at hy
      rcases List.mem_cons.1 hy with rfl | hy
      · exact hz
      · obtain ⟨w, hw, hyw⟩ := List.mem_flatMap.1 hy
        have h1 := ih w (by have := e.pre_kid hw; omega) hyw
        rw [e.pre_eq, Ex.pres_map]
        exact List.mem_cons_of_mem _ (List.mem_flatMap.2 ⟨w, hw, h1⟩)
  exact key _ e (Nat.le_refl _) hy
theorem sm_e {e : Ex} (h : PrOk e) (hl : e.pre.length ≤ 10000) : SmE e := ⟨hl, fun y hy => by
  have hp := h.part y hy
  have hy' : PrOk y := ⟨fun z hz => h.part z (pre_trans hz hy), fun z hz => h.num z (pre_trans hz hy)⟩
  obtain ⟨h1, h2, h3, _⟩ := part_is hy'
  have hs := hy'.shape
  refine ⟨?_, ?_, ?_⟩
  · rcases hs with ⟨e, _⟩ | ⟨a, e, _⟩ | ⟨a, b, e, _⟩ <;> rw [e] <;> simp
  · by_cases h4 : y.op = 4
    · have := (isName_is (h2 h4).1).2.1; omega
    · rw [(h3 h4).1]; exact Nat.zero_le _
  · by_cases h4 : y.op = 4
    · have := (isName_is (h2 h4).2).2.1; omega
    · rw [(h3 h4).2]; exact Nat.zero_le _⟩
theorem sm_ex0 : SmE ex0 := by
  have e : ex0.pre = [ex0] := by kernel_rfl
  refine ⟨by rw [e]; decide, fun y hy => ?_⟩
  rw [e, List.mem_singleton] at hy
  subst hy
  exact ⟨by decide, by decide, by decide⟩
theorem nums_ex0 : ex0.nums := by
  have e : ex0.pre = [ex0] := by kernel_rfl
  intro y hy
  rw [e, List.mem_singleton] at hy
  subst hy
  show R64 0
  exact r64_0
/-- A statement out of its parts. -/
theorem RS.mk' {kind : Int} {mon name : Str} {n : Int} {e : Ex} {blocks : List (List St)} {pl o : Int} (hk : headOk kind mon name n e blocks.length = true) (hn : R64 n) (he : (PrOk e ∧ o + e.ns 1 ≤ 64 ∧ e.pre.length ≤ 10000) ∨ e = ex0) (hb : ∀ b ∈ blocks, RL' b (o + 1)) (ho : o + 1 ≤ 64 ∨ blocks = []) : RS ⟨kind, mon, name, n, e, blocks, pl⟩ o := by
  have hh := head_is hk
  have hm : mon.length ≤ 32 := by
    by_cases h : kind = 2 ∨ 7 ≤ kind
    · exact (isName_is (hh.mon h)).2.1
    · rw [hh.mon' h]; exact Nat.zero_le _
  have hnm : name.length ≤ 32 := by
    by_cases h : kind = 2 ∨ kind = 8
    · exact (isName_is (hh.name h)).2.1
    · rw [hh.name' h]; exact Nat.zero_le _
  have hlen : blocks.length ≤ 8 := by
    have h0 := hh.len0
    have h3 := hh.len3
    have h1 := hh.len1
    have h6 := hh.len6
    have := hh.k
    by_cases h : kind ≤ 2 ∨ 8 ≤ kind
    · have := h0 h; omega
    by_cases h : kind = 3
    · have := h3 h; omega
    by_cases h : kind = 6
    · have := h6 h; omega
    · have := h1 (by omega); omega
  refine ⟨.mk (by omega) (by omega) ?_ (by omega) (fun b hb' => (hb b hb').len) (fun b hb' y hy => ((hb b hb').all y hy).s), .mk hn ?_ (fun b hb' y hy => ((hb b hb').all y hy).num), ?_, fun m hm' => ?_⟩
  · rcases he with ⟨h1, _, h3⟩ | rfl
    · exact sm_e h1 h3
    · exact sm_ex0
  · rcases he with ⟨h1, _, h3⟩ | rfl
    · exact h1.num
    · exact nums_ex0
  · rw [St.ok, hk, St.okB_all, Bool.true_and, List.all_eq_true]
    intro b hb'
    rw [St.okL_all, List.all_eq_true]
    exact fun y hy => ((hb b hb').all y hy).ok
  · rw [St.nsS]
    have key : ∀ l : List (List St), (∀ b ∈ l, RL' b (o + 1)) → (o + 1 ≤ 64 ∨ l = []) → ∀ m, m ≤ 64 → St.nsB l o m ≤ 64 := by
      intro l
      induction l with
      | nil => intro _ _ m hm; rw [St.nsB]; exact hm
      | cons a r ih =>
        intro hl ho m hm
        rw [St.nsB]
        have ho : o + 1 ≤ 64 := by rcases ho with h | h; exact h; cases h
        have := (hl a (by simp)).d (o + 1) ho
        exact ih (fun b hb => hl b (List.mem_cons_of_mem _ hb)) (.inl ho) _ (by omega)
    refine key blocks hb ho _ ?_
    split
    · exact hm'
    · rename_i h0
      rcases he with ⟨_, h2, _⟩ | rfl
      · omega
      · exact absurd rfl h0
end Go.Proofs.YtmflfcbebeikcaaGreatDoor.Q

namespace Go.Proofs.YtmflfcbebeikcaaGreatDoor.Q
open Go.RowKit
variable [Amb] [Pow]
theorem nmT {s : Str} (h : isName s = true) : isNameW s true = true := nmW.2 h
theorem nmF : isNameW [] false = true := nmW'.2 rfl
theorem ex0_none : isNoneS ex0 = true := by kernel_rfl
theorem Gd.set {r : Rd} {a o : Int} {l : List Tk} (h : Gd r a o l) (h0 : 0 ≤ o) (h1 : o ≤ 64) (hN : l.length ≤ 10000) (hc : r.set_.2.code = 0) : ∃ l', Gd r.set_.2 a o l' ∧ RS r.set_.1 o ∧ r.set_.1.cn + l'.length ≤ l.length := by
  have c3 : ((r.pair.2.must [61]).expr.2.must [59]).code = 0 := hc
  have c2 : (r.pair.2.must [61]).expr.2.code = 0 := code_of (fun e => bad_must e _) c3
  have c1 : (r.pair.2.must [61]).code = 0 := code_of (fun e => bad_bin e 0) c2
  have c0 : r.pair.2.code = 0 := code_of (fun e => bad_must e _) c1
  obtain ⟨l1, g1, n1, m1, m2⟩ := h.pair c0
  obtain ⟨l2, g2, n2⟩ := g1.must c1
  obtain ⟨l3, g3, e1, e2, e3⟩ := g2.expr h0 h1 c2
  obtain ⟨l4, g4, n4⟩ := g3.must c3
  refine ⟨l4, g4, ?_, ?_⟩
  · show RS ⟨2, r.pair.1.1, r.pair.1.2, 0, (r.pair.2.must [61]).expr.1, [], r.next.pl⟩ o
    refine RS.mk' (headOk_mk (f := ⟨true, true, false, true, 0, 0⟩) rfl (by decide) (by decide) (by decide) (nmT m1) (nmT m2) (Int.le_refl _) (fun _ => rfl) ?_) r64_0 (.inl ⟨e1, e2, by omega⟩) (by simp) (.inr rfl)
    rw [if_pos rfl, checkS_of e1]; rfl
  · show (St.mk 2 r.pair.1.1 r.pair.1.2 0 (r.pair.2.must [61]).expr.1 [] r.next.pl).cn + _ ≤ _
    rw [St.cn, St.cnB]; omega
theorem Gd.wait {r : Rd} {a o : Int} {l : List Tk} (h : Gd r a o l) (hc : r.wait.2.code = 0) : ∃ l', Gd r.wait.2 a o l' ∧ l'.length ≤ l.length ∧ 0 ≤ r.wait.1 ∧ R64 r.wait.1 := by
  unfold Rd.wait at hc ⊢
  by_cases hk : r.next.kind = 2
  · rw [if_pos hk] at hc ⊢
    by_cases hz : r.next.n = 0
    · rw [if_pos hz] at hc
      exfalso
      have h40 : (r.fail 40).code = 40 := by rw [h.e]; exact fail_code
      have h41 : (r.fail 40).take = r.fail 40 := bad_take (by rw [h40]; decide)
      have hc' : (r.fail 40).take.code = 0 := hc
      rw [h41, h40] at hc'
      exact absurd hc' (by decide)
    · rw [if_neg hz] at hc ⊢
      obtain ⟨l', g, n⟩ := h.take (by rw [hk]; decide) (by rw [hk]; decide)
      refine ⟨l', g, by omega, ?_⟩
      have hgt : GoodT r.next := by
        cases l with
        | nil => exact absurd rfl h.t.ne
        | cons t l => rw [h.e]; exact h.g t (by simp)
      have := hgt.2 hk
      exact ⟨this.1, by show R64 r.next.n; unfold R64; omega⟩
  · rw [if_neg hk] at hc ⊢
    exact ⟨l, h, Nat.le_refl _, Int.le_refl _, r64_0⟩
theorem Gd.simple {r : Rd} {a o : Int} {l : List Tk} (h : Gd r a o l) (hN : l.length ≤ 10000) {k pl : Int} (hk : k = 1 ∨ k = 8 ∨ k = 9 ∨ k = 10 ∨ k = 11) (hc : (r.simple k pl).2.code = 0) : ∃ l', Gd (r.simple k pl).2 a o l' ∧ RS (r.simple k pl).1 o ∧ (r.simple k pl).1.cn + l'.length ≤ l.length := by
  have cn0 : ∀ (k n pl : Int) (m s : Str) (e : Ex), (St.mk k m s n e [] pl).cn = 1 := fun k n pl m s e => by rw [St.cn, St.cnB]
  rcases hk with rfl | rfl | rfl | rfl | rfl
  · have e : r.simple 1 pl = (⟨1, [], [], 0, ex0, [], pl⟩, r.must [59]) := rfl
    rw [e] at hc ⊢
    obtain ⟨l', g, n⟩ := h.must hc
    refine ⟨l', g, RS.mk' (headOk_mk (f := fo0) rfl (by decide) (by decide) (by decide) nmF nmF (Int.le_refl _) (fun _ => rfl) ex0_none) r64_0 (.inr rfl) (by simp) (.inr rfl), by rw [cn0]; omega⟩
  · have e : r.simple 8 pl = (⟨8, r.pair.1.1, r.pair.1.2, 0, ex0, [], pl⟩, r.pair.2.must [59]) := rfl
    rw [e] at hc ⊢
    have c0 : r.pair.2.code = 0 := code_of (fun e => bad_must e _) hc
    obtain ⟨l1, g1, n1, m1, m2⟩ := h.pair c0
    obtain ⟨l', g, n⟩ := g1.must hc
    refine ⟨l', g, RS.mk' (headOk_mk (f := ⟨true, true, false, false, 0, 0⟩) rfl (by decide) (by decide) (by decide) (nmT m1) (nmT m2) (Int.le_refl _) (fun _ => rfl) ex0_none) r64_0 (.inr rfl) (by simp) (.inr rfl), by rw [cn0]; omega⟩
  · have e : r.simple 9 pl = (⟨9, r.name.1.1, [], r.name.2.wait.1, ex0, [], pl⟩, r.name.2.wait.2.must [59]) := rfl
    rw [e] at hc ⊢
    have c1 : r.name.2.wait.2.code = 0 := code_of (fun e => bad_must e _) hc
    have c0 : r.name.2.code = 0 := code_of (fun e => bad_wait e) c1
    obtain ⟨l1, g1, n1, m1⟩ := h.name c0
    obtain ⟨l2, g2, n2, w1, w2⟩ := g1.wait c1
    obtain ⟨l', g, n⟩ := g2.must hc
    refine ⟨l', g, RS.mk' (headOk_mk (f := ⟨true, false, true, false, 0, 0⟩) rfl (by decide) (by decide) (by decide) (nmT m1) nmF w1 (fun h => by cases h) ex0_none) w2 (.inr rfl) (by simp) (.inr rfl), by rw [cn0]; omega⟩
  · have e : r.simple 10 pl = (⟨10, r.name.1.1, [], 0, ex0, [], pl⟩, r.name.2.must [59]) := rfl
    rw [e] at hc ⊢
    have c0 : r.name.2.code = 0 := code_of (fun e => bad_must e _) hc
    obtain ⟨l1, g1, n1, m1⟩ := h.name c0
    obtain ⟨l', g, n⟩ := g1.must hc
    refine ⟨l', g, RS.mk' (headOk_mk (f := ⟨true, false, false, false, 0, 0⟩) rfl (by decide) (by decide) (by decide) (nmT m1) nmF (Int.le_refl _) (fun _ => rfl) ex0_none) r64_0 (.inr rfl) (by simp) (.inr rfl), by rw [cn0]; omega⟩
  · have e : r.simple 11 pl = (⟨11, r.name.1.1, [], 0, ex0, [], pl⟩, r.name.2.must [59]) := rfl
    rw [e] at hc ⊢
    have c0 : r.name.2.code = 0 := code_of (fun e => bad_must e _) hc
    obtain ⟨l1, g1, n1, m1⟩ := h.name c0
    obtain ⟨l', g, n⟩ := g1.must hc
    refine ⟨l', g, RS.mk' (headOk_mk (f := ⟨true, false, false, false, 0, 0⟩) rfl (by decide) (by decide) (by decide) (nmT m1) nmF (Int.le_refl _) (fun _ => rfl) ex0_none) r64_0 (.inr rfl) (by simp) (.inr rfl), by rw [cn0]; omega⟩
/-- What stands ahead of blocks. -/
theorem Gd.head {r : Rd} {a o : Int} {l : List Tk} (h : Gd r a o l) (h0 : 0 ≤ o) (h1 : o ≤ 64) {k : Int} (hc : (r.head k).2.code = 0) : ∃ l', Gd (r.head k).2 a o l' ∧ l'.length ≤ l.length ∧
    ((k = 3 ∨ k = 4) → (r.head k).1.1 = [] ∧ PrOk (r.head k).1.2 ∧ o + (r.head k).1.2.ns 1 ≤ 64 ∧ (r.head k).1.2.pre.length ≤ l.length) ∧ (k = 7 → isName (r.head k).1.1 = true ∧ (r.head k).1.2 = ex0) ∧ (¬ (k = 3 ∨ k = 4) → k ≠ 7 → (r.head k).1 = ([], ex0)) := by
  unfold Rd.head at hc ⊢
  by_cases h3 : k = 3 ∨ k = 4
  · rw [if_pos h3] at hc ⊢
    obtain ⟨l', g, e1, e2, e3⟩ := h.expr h0 h1 hc
    exact ⟨l', g, by omega, fun _ => ⟨rfl, e1, e2, by show r.expr.1.pre.length ≤ _; omega⟩, fun h => by omega, fun h => absurd h3 h⟩
  · rw [if_neg h3] at hc ⊢
    by_cases h7 : k = 7
    · rw [if_pos h7] at hc ⊢
      obtain ⟨l', g, n, m⟩ := h.name hc
      exact ⟨l', g, by omega, fun h => absurd h h3, fun _ => ⟨m, rfl⟩, fun _ h => absurd h7 h⟩
    · rw [if_neg h7] at hc ⊢
      exact ⟨l, h, Nat.le_refl _, fun h => absurd h h3, fun h => absurd h h7, fun _ _ => rfl⟩
/-! ### the goals, by the number of tokens -/
def S1 (N : Nat) : Prop := ∀ (r : Rd) (a o : Int) (l : List Tk), Gd r a o l → 0 ≤ o → o ≤ 64 → l.length ≤ N → l.length ≤ 10000 → r.stmt.2.code = 0 → ∃ l', Gd r.stmt.2 a o l' ∧ RS r.stmt.1 o ∧ r.stmt.1.cn + l'.length ≤ l.length
def S2 (N : Nat) : Prop := ∀ (r : Rd) (a o : Int) (l : List Tk) (k pl : Int), Gd r a o l → 0 ≤ o → o ≤ 64 → l.length ≤ N → l.length ≤ 10000 → 3 ≤ k ∧ k ≤ 7 → (r.comp k pl).2.code = 0 → ∃ l', Gd (r.comp k pl).2 a o l' ∧ RS (r.comp k pl).1 o ∧ (r.comp k pl).1.cn + l'.length ≤ l.length + 1
def S3 (N : Nat) : Prop := ∀ (r : Rd) (a o : Int) (l : List Tk) (acc : List (List St)), Gd r a o l → 0 ≤ o → o ≤ 64 → l.length ≤ N → l.length ≤ 10000 → acc.length ≤ 8 → (r.ors acc).2.code = 0 → ∃ l' q, Gd (r.ors acc).2 a o l' ∧ (r.ors acc).1 = acc ++ q ∧ (acc ++ q).length ≤ 8 ∧ (∀ b ∈ q, RL' b (o + 1)) ∧ St.cnB q + l'.length ≤ l.length
def S4 (N : Nat) : Prop := ∀ (r : Rd) (a o : Int) (l : List Tk), Gd r a o l → 0 ≤ o → o ≤ 64 → l.length ≤ N → l.length ≤ 10000 → r.block.2.code = 0 → ∃ l', Gd r.block.2 a o l' ∧ RL' r.block.1 (o + 1) ∧ o < 64 ∧ St.cnL r.block.1 + l'.length + 2 ≤ l.length
def S5 (N : Nat) : Prop := ∀ (r : Rd) (a o : Int) (l : List Tk) (acc : List St), Gd r a o l → 0 ≤ o → o ≤ 64 → l.length ≤ N → l.length ≤ 10000 → (r.stmts acc).2.code = 0 → ∃ l' q, Gd (r.stmts acc).2 a o l' ∧ (r.stmts acc).1 = acc ++ q ∧ (∀ y ∈ q, RS y o) ∧ q.length + l'.length ≤ l.length ∧ St.cnL q + l'.length ≤ l.length
theorem s1_of {N : Nat} (h2 : ∀ M, M < N → S2 M) : S1 N := by
  intro r a o l h h0 h1 hN hl hc
  have hok := h.ok h0 h1
  rw [Rd.stmt_eq hok] at hc ⊢
  by_cases hk : r.next.kind = 1
  · rw [if_pos hk] at hc ⊢
    exact h.set h0 h1 hl hc
  rw [if_neg hk] at hc ⊢
  by_cases hk3 : ¬ r.next.kind = 3 ∨ kindOf r.next.text = 0
  · rw [if_pos hk3] at hc
    exfalso
    have h40 : (r.fail 40).code = 40 := by rw [h.e]; exact fail_code
    have hc' : (r.fail 40).code = 0 := hc
    rw [h40] at hc'
    exact absurd hc' (by decide)
  rw [if_neg hk3] at hc ⊢
  have h3 : r.next.kind = 3 := Classical.byContradiction fun e => hk3 (.inl e)
  have hkz : kindOf r.next.text ≠ 0 := fun e => hk3 (.inr e)
  obtain ⟨l1, g1, n1⟩ := h.take (by rw [h3]; decide) (by rw [h3]; decide)
  by_cases hb : 3 ≤ kindOf r.next.text ∧ kindOf r.next.text ≤ 7
  · rw [if_pos hb] at hc ⊢
    obtain ⟨l', g, q1, q2⟩ := h2 l1.length (by omega) r.take a o l1 _ _ g1 h0 h1 (Nat.le_refl _) (by omega) hb hc
    exact ⟨l', g, q1, by omega⟩
  · rw [if_neg hb] at hc ⊢
    have := kindOf_in r.next.text
    obtain ⟨l', g, q1, q2⟩ := g1.simple (by omega) (by omega) hc
    exact ⟨l', g, q1, by omega⟩
theorem s4_of {N : Nat} (h5 : ∀ M, M < N → S5 M) : S4 N := by
  intro r a o l h h0 h1 hN hl hc
  have hok := h.ok h0 h1
  rw [Rd.block_eq hok] at hc ⊢
  by_cases hi : r.is [123] = true
  · rw [if_pos hi] at hc ⊢
    have c2 : ((r.enter.stmts []).2.must [125]).code = 0 := hc
    have c1 : (r.enter.stmts []).2.code = 0 := code_of (fun e => bad_must e _) c2
    have c0 : r.enter.code = 0 := code_of (fun e => by rw [bad_stmts e]) c1
    obtain ⟨ho, l1, g1, n1⟩ := h.enter hi c0
    obtain ⟨l2, q, g2, e2, q1, q2, q3⟩ := h5 l1.length (by omega) r.enter a (o + 1) l1 [] g1 (by omega) (by omega) (Nat.le_refl _) (by omega) c1
    obtain ⟨l3, g3, n3⟩ := g2.must c2
    refine ⟨l3, g3.leave, ?_, ho, ?_⟩
    · show RL' (r.enter.stmts []).1 (o + 1)
      rw [e2, List.nil_append]
      exact ⟨q1, by omega⟩
    · show St.cnL (r.enter.stmts []).1 + _ + 2 ≤ _
      rw [e2, List.nil_append]; omega
  · rw [if_neg hi] at hc
    exfalso
    have h40 : (r.fail 40).code = 40 := by rw [h.e]; exact fail_code
    have hc' : (r.fail 40).code = 0 := hc
    rw [h40] at hc'
    exact absurd hc' (by decide)
theorem room_bad {r : Rd} {a o : Int} {l : List Tk} (h : Gd r a o l) {n most : Int} (hn : n ≥ most) : (r.room n most).take.code ≠ 0 := by
  unfold Rd.room
  rw [if_pos hn]
  have h6 : (r.fail 6).code = 6 := by rw [h.e]; exact fail_code
  rw [bad_take (by rw [h6]; decide), h6]; decide
theorem s3_of {N : Nat} (h3 : ∀ M, M < N → S3 M) (h4 : ∀ M, M < N → S4 M) : S3 N := by
  intro r a o l acc h h0 h1 hN hl ha hc
  have hok := h.ok h0 h1
  rw [Rd.ors_eq hok] at hc ⊢
  by_cases hi : r.is [111, 114] = true
  · rw [if_pos hi] at hc ⊢
    have c1 : (r.room acc.length 8).take.block.2.code = 0 := code_of (fun e => by rw [bad_ors e]) hc
    have c0 : (r.room acc.length 8).take.code = 0 := code_of (fun e => bad_block e) c1
    have hlt : acc.length < 8 := by
      rcases Nat.lt_or_ge acc.length 8 with h8 | h8
      · exact h8
      · exact absurd c0 (room_bad h (by omega))
    rw [room_ok (by omega)] at hc c1 ⊢
    obtain ⟨l1, g1, n1⟩ := h.takeIs hi
    obtain ⟨l2, g2, b1, b2, b3⟩ := h4 l1.length (by omega) r.take a o l1 g1 h0 h1 (Nat.le_refl _) (by omega) c1
    obtain ⟨l3, q, g3, e3, q1, q2, q3⟩ := h3 l2.length (by omega) r.take.block.2 a o l2 (acc ++ [r.take.block.1]) g2 h0 h1 (Nat.le_refl _) (by omega) (by simp; omega) hc
    refine ⟨l3, r.take.block.1 :: q, g3, by rw [e3]; simp, by simpa using q1, fun b hb => ?_, ?_⟩
    · rcases List.mem_cons.1 hb with rfl | hb
      · exact b1
      · exact q2 b hb
    · rw [St.cnB]; omega
  · rw [if_neg hi] at hc ⊢
    exact ⟨l, [], h, by simp, by simpa using ha, by simp, by rw [St.cnB]; omega⟩
theorem s5_of {N : Nat} (h1' : S1 N) (h5 : ∀ M, M < N → S5 M) : S5 N := by
  intro r a o l acc h h0 h1 hN hl hc
  have hok := h.ok h0 h1
  rw [Rd.stmts_eq hok] at hc ⊢
  by_cases hi : r.code = 0 ∧ ¬ r.is [125] = true
  · rw [if_pos hi] at hc ⊢
    have c1 : r.stmt.2.code = 0 := code_of (fun e => by rw [bad_stmts e]) hc
    obtain ⟨l1, g1, s1, n1⟩ := h1' r a o l h h0 h1 hN hl c1
    have hpos := r.stmt.1.cn_pos
    obtain ⟨l2, q, g2, e2, q1, q2, q3⟩ := h5 l1.length (by omega) r.stmt.2 a o l1 (acc ++ [r.stmt.1]) g1 h0 h1 (Nat.le_refl _) (by omega) hc
    refine ⟨l2, r.stmt.1 :: q, g2, by rw [e2]; simp, fun y hy => ?_, by rw [List.length_cons]; omega, by rw [St.cnL]; omega⟩
    rcases List.mem_cons.1 hy with rfl | hy
    · exact s1
    · exact q1 y hy
  · rw [if_neg hi] at hc ⊢
    exact ⟨l, [], h, by simp, by simp, by simp, by rw [St.cnL]; omega⟩
theorem s2_of {N : Nat} (h3 : S3 N) (h4 : S4 N) : S2 N := by
  intro r a o l k pl h h0 h1 hN hl hk hc
  have hok := h.ok h0 h1
  rw [Rd.comp_eq hok] at hc ⊢
  have cb : (r.head k).2.block.2.code = 0 := by
    by_cases k3 : k = 3
    · rw [if_pos k3] at hc
      by_cases he : (r.head k).2.block.2.is [101, 108, 115, 101] = true
      · rw [if_pos he] at hc
        exact code_of (fun e => by rw [bad_take e, bad_block e]) (show (r.head k).2.block.2.take.block.2.code = 0 from hc)
      · rw [if_neg he] at hc; exact hc
    · rw [if_neg k3] at hc
      by_cases k6 : k = 6
      · rw [if_pos k6] at hc
        exact code_of (fun e => by rw [bad_ors e]) (show ((r.head k).2.block.2.ors [(r.head k).2.block.1]).2.code = 0 from hc)
      · rw [if_neg k6] at hc; exact hc
  have ch : (r.head k).2.code = 0 := code_of (fun e => bad_block e) cb
  obtain ⟨l1, g1, n1, hx, hs, hz⟩ := h.head h0 h1 ch
  obtain ⟨l2, g2, b1, b2, b3⟩ := h4 _ a o l1 g1 h0 h1 (by omega) (by omega) cb
  have one : ∀ b ∈ [(r.head k).2.block.1], RL' b (o + 1) := fun b hb => by rw [List.mem_singleton.1 hb]; exact b1
  by_cases k3 : k = 3
  · subst k3
    rw [if_pos rfl] at hc ⊢
    obtain ⟨x1, x2, x3, x4⟩ := hx (.inl rfl)
    have hex : (if (⟨false, false, false, true, 1, 2⟩ : Fo).ex = true then (checkS (r.head 3).1.2 == 0) else isNoneS (r.head 3).1.2) = true := by rw [if_pos rfl, checkS_of x2]; rfl
    by_cases he : (r.head 3).2.block.2.is [101, 108, 115, 101] = true
    · rw [if_pos he] at hc ⊢
      obtain ⟨l3, g3, n3⟩ := g2.takeIs he
      obtain ⟨l4, g4, d1, d2, d3⟩ := h4 _ a o l3 g3 h0 h1 (by omega) (by omega) hc
      refine ⟨l4, g4, ?_, ?_⟩
      · refine RS.mk' (headOk_mk (f := ⟨false, false, false, true, 1, 2⟩) rfl (by decide) (show (1 : Int) ≤ 2 by decide) (show (2 : Int) ≤ 2 by decide) (by rw [x1]; exact nmF) nmF (Int.le_refl _) (fun _ => rfl) hex) r64_0 (.inl ⟨x2, x3, by omega⟩) (fun b hb => ?_) (.inl (by omega))
        rcases List.mem_cons.1 hb with rfl | hb
        · exact b1
        · rw [List.mem_singleton.1 hb]; exact d1
      · rw [St.cn, St.cnB, St.cnB, St.cnB]; omega
    · rw [if_neg he] at hc ⊢
      refine ⟨l2, g2, RS.mk' (headOk_mk (f := ⟨false, false, false, true, 1, 2⟩) rfl (by decide) (show (1 : Int) ≤ 1 by decide) (show (1 : Int) ≤ 2 by decide) (by rw [x1]; exact nmF) nmF (Int.le_refl _) (fun _ => rfl) hex) r64_0 (.inl ⟨x2, x3, by omega⟩) one (.inl (by omega)), ?_⟩
      rw [St.cn, St.cnB, St.cnB]; omega
  rw [if_neg k3] at hc ⊢
  by_cases k6 : k = 6
  · subst k6
    rw [if_pos rfl] at hc ⊢
    obtain ⟨l3, q, g3, e3, q1, q2, q3⟩ := h3 _ a o l2 [(r.head 6).2.block.1] g2 h0 h1 (by omega) (by omega) (show 1 ≤ 8 by decide) hc
    have hz := hz (by decide) (by decide)
    refine ⟨l3, g3, ?_, ?_⟩
    · dsimp only
      rw [e3, hz]
      refine RS.mk' (headOk_mk (f := ⟨false, false, false, false, 1, 8⟩) rfl (by decide) (by simp; omega) (by dsimp only; omega) nmF nmF (Int.le_refl _) (fun _ => rfl) ex0_none) r64_0 (.inr rfl) (fun b hb => ?_) (.inl (by omega))
      rcases List.mem_append.1 hb with hb | hb
      · exact one b hb
      · exact q2 b hb
    · dsimp only
      rw [e3, St.cn, cnB_app, St.cnB, St.cnB]; omega
  rw [if_neg k6] at hc ⊢
  have hcn : (St.mk k (r.head k).1.1 [] 0 (r.head k).1.2 [(r.head k).2.block.1] pl).cn + l2.length ≤ l.length + 1 := by
    rw [St.cn, St.cnB, St.cnB]; omega
  refine ⟨l2, g2, ?_, hcn⟩
  by_cases k4 : k = 4
  · subst k4
    obtain ⟨x1, x2, x3, x4⟩ := hx (.inr rfl)
    have hex : (if (⟨false, false, false, true, 1, 1⟩ : Fo).ex = true then (checkS (r.head 4).1.2 == 0) else isNoneS (r.head 4).1.2) = true := by rw [if_pos rfl, checkS_of x2]; rfl
    exact RS.mk' (headOk_mk (f := ⟨false, false, false, true, 1, 1⟩) rfl (by decide) (show (1 : Int) ≤ 1 by decide) (show (1 : Int) ≤ 1 by decide) (by rw [x1]; exact nmF) nmF (Int.le_refl _) (fun _ => rfl) hex) r64_0 (.inl ⟨x2, x3, by omega⟩) one (.inl (by omega))
  by_cases k7 : k = 7
  · subst k7
    obtain ⟨s1, s2⟩ := hs rfl
    rw [s2]
    exact RS.mk' (headOk_mk (f := ⟨true, false, false, false, 1, 1⟩) rfl (by decide) (show (1 : Int) ≤ 1 by decide) (show (1 : Int) ≤ 1 by decide) (nmT s1) nmF (Int.le_refl _) (fun _ => rfl) ex0_none) r64_0 (.inr rfl) one (.inl (by omega))
  · have k5 : k = 5 := by omega
    subst k5
    rw [hz (by decide) (by decide)]
    exact RS.mk' (headOk_mk (f := ⟨false, false, false, false, 1, 1⟩) rfl (by decide) (show (1 : Int) ≤ 1 by decide) (show (1 : Int) ≤ 1 by decide) nmF nmF (Int.le_refl _) (fun _ => rfl) ex0_none) r64_0 (.inr rfl) one (.inl (by omega))
theorem s_all (N : Nat) : S1 N ∧ S2 N ∧ S3 N ∧ S4 N ∧ S5 N := by
  induction N using Nat.strongRecOn with
  | _ N ih =>
    have h4 : S4 N := s4_of fun M hM => (ih M hM).2.2.2.2
    have h3 : S3 N := s3_of (fun M hM => (ih M hM).2.2.1) fun M hM => (ih M hM).2.2.2.1
    have h1 : S1 N := s1_of fun M hM => (ih M hM).2.1
    exact ⟨h1, s2_of h3 h4, h3, h4, s5_of h1 fun M hM => (ih M hM).2.2.2.2⟩
/-- A block that is parsed. -/
theorem block_sound {r : Rd} {a o : Int} {l : List Tk} (h : Gd r a o l) (h0 : 0 ≤ o) (h1 : o ≤ 64) (hl : l.length ≤ 10000) (hc : r.block.2.code = 0) : ∃ l', Gd r.block.2 a o l' ∧ RL' r.block.1 (o + 1) ∧ o < 64 ∧ St.cnL r.block.1 + l'.length + 2 ≤ l.length :=
  (s_all l.length).2.2.2.1 r a o l h h0 h1 (Nat.le_refl _) hl hc
end Go.Proofs.YtmflfcbebeikcaaGreatDoor.Q

namespace Go.Proofs.YtmflfcbebeikcaaGreatDoor.Q
open Go.RowKit
variable [Amb] [Pow]
/-! ### numbers with a sign -/
theorem Gd.of2 {r : Rd} {a o : Int} {l : List Tk} (h : Gd r a o l) (hc : (r.of 2).2.code = 0) : ∃ l', Gd (r.of 2).2 a o l' ∧ l'.length + 1 = l.length ∧ 0 ≤ (r.of 2).1.n ∧ (r.of 2).1.n < 9223372036854775808 := by
  rw [h.e] at hc
  obtain ⟨t, rest, rfl, k, h2, h3⟩ := of_inv h.t (by decide) (by decide) hc
  rw [h.e, h3]
  exact ⟨rest, ⟨rfl, h2, h.g.tail⟩, rfl, (h.g t (by simp)).2 k⟩
theorem Gd.may {r : Rd} {a o : Int} {l : List Tk} (h : Gd r a o l) (s : Str) : ∃ l', Gd (r.may s).2 a o l' ∧ l'.length ≤ l.length := by
  unfold Rd.may
  by_cases hi : r.is s = true
  · rw [if_pos hi]
    obtain ⟨l', g, n⟩ := h.takeIs hi
    exact ⟨l', g, by omega⟩
  · rw [if_neg hi]
    exact ⟨l, h, Nat.le_refl _⟩
def NumOk (n : Int) : Prop := R64 n ∧ n ≠ -9223372036854775808
theorem Gd.whole {r : Rd} {a o : Int} {l : List Tk} (h : Gd r a o l) (hc : r.whole.2.code = 0) : ∃ l', Gd r.whole.2 a o l' ∧ l'.length + 1 ≤ l.length ∧ NumOk r.whole.1 := by
  obtain ⟨l1, g1, n1⟩ := h.may [45]
  obtain ⟨l2, g2, n2, b1, b2⟩ := g1.of2 hc
  refine ⟨l2, g2, by omega, ?_⟩
  unfold Rd.whole NumOk
  dsimp only
  by_cases hm : (r.may [45]).1 = true
  · rw [if_pos hm, wrap_in (by unfold R64; omega)]
    exact ⟨by unfold R64; omega, by omega⟩
  · rw [if_neg hm]
    exact ⟨by unfold R64; omega, by omega⟩
theorem bad_may {r : Rd} (h : r.code ≠ 0) (s : Str) : r.may s = (false, r) := by unfold Rd.may; rw [if_neg (bad_is h s)]
theorem Gd.fin {r : Rd} {a o : Int} {l : List Tk} (h : Gd r a o l) (hc : r.fin.2.code = 0) : ∃ l', Gd r.fin.2 a o l' ∧ l'.length + 1 ≤ l.length ∧ NumOk r.fin.1 := by
  have c2 : ((r.must [61]).whole.2.must [59]).code = 0 := hc
  have c1 : (r.must [61]).whole.2.code = 0 := code_of (fun e => bad_must e _) c2
  have c0 : (r.must [61]).code = 0 := code_of (fun e => bad_whole e) c1
  obtain ⟨l1, g1, n1⟩ := h.must c0
  obtain ⟨l2, g2, n2, b⟩ := g1.whole c1
  obtain ⟨l3, g3, n3⟩ := g2.must c2
  exact ⟨l3, g3, by omega, b⟩
theorem bad_fin {r : Rd} (h : r.code ≠ 0) : r.fin.2 = r := by
  unfold Rd.fin
  dsimp only
  rw [bad_must h, bad_whole h, bad_must h]
theorem Gd.bol {r : Rd} {a o : Int} {l : List Tk} (h : Gd r a o l) (hc : r.bol.2.code = 0) : ∃ l', Gd r.bol.2 a o l' ∧ l'.length + 1 ≤ l.length ∧ (r.bol.1 = 0 ∨ r.bol.1 = 1) := by
  unfold Rd.bol at hc ⊢
  by_cases hi : (r.must [61]).is [116, 114, 117, 101] = true
  · rw [if_pos hi] at hc ⊢
    have c1 : (r.must [61]).take.code = 0 := code_of (fun e => bad_must e _) hc
    have c0 : (r.must [61]).code = 0 := code_of (fun e => bad_take e) c1
    obtain ⟨l1, g1, n1⟩ := h.must c0
    obtain ⟨l2, g2, n2⟩ := g1.takeIs hi
    obtain ⟨l3, g3, n3⟩ := g2.must hc
    exact ⟨l3, g3, by omega, .inr rfl⟩
  · rw [if_neg hi] at hc ⊢
    have c1 : ((r.must [61]).must [102, 97, 108, 115, 101]).code = 0 := code_of (fun e => bad_must e _) hc
    have c0 : (r.must [61]).code = 0 := code_of (fun e => bad_must e _) c1
    obtain ⟨l1, g1, n1⟩ := h.must c0
    obtain ⟨l2, g2, n2⟩ := g1.must c1
    obtain ⟨l3, g3, n3⟩ := g2.must hc
    exact ⟨l3, g3, by omega, .inl rfl⟩
theorem bad_bol {r : Rd} (h : r.code ≠ 0) : r.bol.2 = r := by
  unfold Rd.bol
  rw [bad_must h, if_neg (bad_is h _)]
  dsimp only
  rw [bad_must h, bad_must h]
theorem Gd.rng {r : Rd} {a o : Int} {l : List Tk} (h : Gd r a o l) (hc : r.rng.2.code = 0) : ∃ l', Gd r.rng.2 a o l' ∧ l'.length + 1 ≤ l.length ∧ NumOk r.rng.1.1 ∧ NumOk r.rng.1.2 ∧ r.rng.1.1 ≤ r.rng.1.2 := by
  unfold Rd.rng at hc ⊢
  dsimp only at hc ⊢
  by_cases hi : (r.whole.2.must [46, 46]).whole.1 < r.whole.1 ∧ (r.whole.2.must [46, 46]).whole.2.code = 0
  · rw [if_pos hi] at hc
    exact absurd hc (by show ¬ (40 : Int) = 0; decide)
  · rw [if_neg hi] at hc ⊢
    have c1 : (r.whole.2.must [46, 46]).code = 0 := code_of (fun e => bad_whole e) hc
    have c0 : r.whole.2.code = 0 := code_of (fun e => bad_must e _) c1
    obtain ⟨l1, g1, n1, b1⟩ := h.whole c0
    obtain ⟨l2, g2, n2⟩ := g1.must c1
    obtain ⟨l3, g3, n3, b3⟩ := g2.whole hc
    refine ⟨l3, g3, by omega, b1, b3, ?_⟩
    rcases Int.lt_or_le (r.whole.2.must [46, 46]).whole.1 r.whole.1 with h5 | h5
    · exact absurd ⟨h5, hc⟩ hi
    · exact h5
theorem bad_rng {r : Rd} (h : r.code ≠ 0) : r.rng.2 = r := by
  unfold Rd.rng
  dsimp only
  rw [bad_whole h, bad_must h, bad_whole h, if_neg (fun k => h k.2)]
/-! ### variables -/
structure RV (v : Vr) : Prop where
  ok : v.ok = true
  num : VrNum v
  name : v.name.length ≤ 200
theorem vr_ok {nm : Str} {ty lo hi init pl : Int} (hn : isName nm = true) (h1 : NumOk lo) (h2 : NumOk hi) (h3 : NumOk init) (hk : (ty = 1 ∧ lo = 0 ∧ hi = 0 ∧ (init = 0 ∨ init = 1)) ∨ (ty = 2 ∧ lo = 0 ∧ hi = 0) ∨ (ty = 3 ∧ lo ≤ hi)) : RV ⟨nm, ty, lo, hi, init, pl⟩ := by
  obtain ⟨a1, a2⟩ := h1
  obtain ⟨b1, b2⟩ := h2
  obtain ⟨c1, c2⟩ := h3
  refine ⟨?_, ⟨a1, b1, c1⟩, by have := (isName_is hn).2.1; show nm.length ≤ 200; omega⟩
  unfold Vr.ok
  dsimp only
  have hmin : (minI lo [hi, init] == -9223372036854775808) = false := by
    rw [beq_eq_false_iff_ne]
    simp only [minI]
    repeat' split
    all_goals omega
  rw [hn, hmin]
  rcases hk with ⟨rfl, rfl, rfl, rfl | rfl⟩ | ⟨rfl, rfl, rfl⟩ | ⟨rfl, h⟩
  · rfl
  · rfl
  · rfl
  · rw [if_neg (by decide), if_neg (by decide), if_pos rfl, decide_eq_true h]; rfl
theorem num0 : NumOk 0 := ⟨r64_0, by decide⟩
theorem num1 : NumOk 1 := ⟨by unfold R64; decide, by decide⟩
theorem Gd.var {r : Rd} {a o : Int} {l : List Tk} (h : Gd r a o l) (hc : r.var.2.code = 0) : ∃ l', Gd r.var.2 a o l' ∧ l'.length + 1 ≤ l.length ∧ RV r.var.1 := by
  unfold Rd.var at hc ⊢
  by_cases hb : (r.name.2.must [58]).is [98, 111, 111, 108] = true
  · rw [if_pos hb] at hc ⊢
    have c2 : (r.name.2.must [58]).take.code = 0 := code_of (fun e => bad_bol e) hc
    have c1 : (r.name.2.must [58]).code = 0 := code_of (fun e => bad_take e) c2
    have c0 : r.name.2.code = 0 := code_of (fun e => bad_must e _) c1
    obtain ⟨l1, g1, n1, m1⟩ := h.name c0
    obtain ⟨l2, g2, n2⟩ := g1.must c1
    obtain ⟨l3, g3, n3⟩ := g2.takeIs hb
    obtain ⟨l4, g4, n4, b4⟩ := g3.bol hc
    refine ⟨l4, g4, by omega, vr_ok m1 num0 num0 ?_ (.inl ⟨rfl, rfl, rfl, b4⟩)⟩
    rcases b4 with e | e <;> rw [e]
    · exact num0
    · exact num1
  rw [if_neg hb] at hc ⊢
  by_cases hi : (r.name.2.must [58]).is [105, 110, 116] = true
  · rw [if_pos hi] at hc ⊢
    have c2 : (r.name.2.must [58]).take.code = 0 := code_of (fun e => bad_fin e) hc
    have c1 : (r.name.2.must [58]).code = 0 := code_of (fun e => bad_take e) c2
    have c0 : r.name.2.code = 0 := code_of (fun e => bad_must e _) c1
    obtain ⟨l1, g1, n1, m1⟩ := h.name c0
    obtain ⟨l2, g2, n2⟩ := g1.must c1
    obtain ⟨l3, g3, n3⟩ := g2.takeIs hi
    obtain ⟨l4, g4, n4, b4⟩ := g3.fin hc
    exact ⟨l4, g4, by omega, vr_ok m1 num0 num0 b4 (.inr (.inl ⟨rfl, rfl, rfl⟩))⟩
  · rw [if_neg hi] at hc ⊢
    have c2 : (r.name.2.must [58]).rng.2.code = 0 := code_of (fun e => bad_fin e) hc
    have c1 : (r.name.2.must [58]).code = 0 := code_of (fun e => bad_rng e) c2
    have c0 : r.name.2.code = 0 := code_of (fun e => bad_must e _) c1
    obtain ⟨l1, g1, n1, m1⟩ := h.name c0
    obtain ⟨l2, g2, n2⟩ := g1.must c1
    obtain ⟨l3, g3, n3, b1, b2, b3⟩ := g2.rng c2
    obtain ⟨l4, g4, n4, b4⟩ := g3.fin hc
    exact ⟨l4, g4, by omega, vr_ok m1 b1 b2 b4 (.inr (.inr ⟨rfl, b3⟩))⟩
theorem bad_var {r : Rd} (h : r.code ≠ 0) : r.var.2 = r := by
  have h2 : r.name.2 = r := by rw [bad_name h]
  unfold Rd.var
  rw [h2, bad_must h, if_neg (bad_is h _), if_neg (bad_is h _)]
  dsimp only
  rw [bad_rng h, bad_fin h]
theorem bad_vars {r : Rd} (h : r.code ≠ 0) (f : Nat) (acc : List Vr) : varsF f acc r = (acc, r) := by
  cases f with
  | zero => rfl
  | succ f => rw [varsF, if_neg (bad_is h _)]
theorem vars_sound (f : Nat) : ∀ (acc : List Vr) (r : Rd) (a o : Int) (l : List Tk), Gd r a o l → l.length < f → acc.length ≤ 16 → (∀ v ∈ acc, RV v) → (varsF f acc r).2.code = 0 → ∃ l', Gd (varsF f acc r).2 a o l' ∧ l'.length ≤ l.length ∧ (varsF f acc r).1.length ≤ 16 ∧ ∀ v ∈ (varsF f acc r).1, RV v := by
  induction f with
  | zero => intro acc r a o l _ h; omega
  | succ f ih =>
    intro acc r a o l h hf ha hv hc
    rw [varsF] at hc ⊢
    by_cases hi : r.is wVar = true
    · rw [if_pos hi] at hc ⊢
      have c1 : (r.room acc.length 16).take.var.2.code = 0 := code_of (fun e => by rw [bad_vars e]) hc
      have c0 : (r.room acc.length 16).take.code = 0 := code_of (fun e => bad_var e) c1
      have hlt : acc.length < 16 := by
        rcases Nat.lt_or_ge acc.length 16 with h8 | h8
        · exact h8
        · exact absurd c0 (room_bad h (by omega))
      rw [room_ok (by omega)] at hc c1 ⊢
      obtain ⟨l1, g1, n1⟩ := h.takeIs hi
      obtain ⟨l2, g2, n2, v2⟩ := g1.var c1
      obtain ⟨l3, g3, n3, q1, q2⟩ := ih (acc ++ [r.take.var.1]) r.take.var.2 a o l2 g2 (by omega) (by simp; omega) (fun v hv' => by
        rcases List.mem_append.1 hv' with hv' | hv'
        · exact hv v hv'
        · rw [List.mem_singleton.1 hv']; exact v2) hc
      exact ⟨l3, g3, by omega, q1, q2⟩
    · rw [if_neg hi] at hc ⊢
      exact ⟨l, h, Nat.le_refl _, ha, hv⟩
/-! ### methods -/
/-- A body that was parsed at a depth. -/
structure RB (b : List St) (o : Int) : Prop where
  all : RL' b o
  cn : St.cnL b ≤ 10000
structure RM (f : Mt) : Prop where
  name : isName f.name = true
  body : RB f.body 2
theorem Gd.meth {r : Rd} {a : Int} {l : List Tk} (h : Gd r a 1 l) (hl : l.length ≤ 10000) (hc : r.meth.2.code = 0) : ∃ l', Gd r.meth.2 a 1 l' ∧ l'.length + 1 ≤ l.length ∧ RM r.meth.1 := by
  have c1 : r.name.2.block.2.code = 0 := hc
  have c0 : r.name.2.code = 0 := code_of (fun e => bad_block e) c1
  obtain ⟨l1, g1, n1, m1⟩ := h.name c0
  obtain ⟨l2, g2, b1, _, b3⟩ := block_sound g1 (by decide) (by decide) (by omega) c1
  exact ⟨l2, g2, by omega, m1, b1, by show St.cnL r.name.2.block.1 ≤ 10000; omega⟩
theorem bad_meth {r : Rd} (h : r.code ≠ 0) : r.meth.2 = r := by
  have h2 : r.name.2 = r := by rw [bad_name h]
  unfold Rd.meth
  dsimp only
  rw [h2, bad_block h]
theorem bad_meths {r : Rd} (h : r.code ≠ 0) (f : Nat) (acc : List Mt) : methsF f acc r = (acc, r) := by
  cases f with
  | zero => rfl
  | succ f => rw [methsF, if_neg (bad_is h _)]
theorem meths_sound (f : Nat) : ∀ (acc : List Mt) (r : Rd) (a : Int) (l : List Tk), Gd r a 1 l → l.length ≤ 10000 → l.length < f → acc.length ≤ 16 → (∀ v ∈ acc, RM v) → (methsF f acc r).2.code = 0 → ∃ l', Gd (methsF f acc r).2 a 1 l' ∧ l'.length ≤ l.length ∧ (methsF f acc r).1.length ≤ 16 ∧ ∀ v ∈ (methsF f acc r).1, RM v := by
  induction f with
  | zero => intro acc r a l _ _ h; omega
  | succ f ih =>
    intro acc r a l h hN hf ha hv hc
    rw [methsF] at hc ⊢
    by_cases hi : r.is wMethod = true
    · rw [if_pos hi] at hc ⊢
      have c1 : (r.room acc.length 16).take.meth.2.code = 0 := code_of (fun e => by rw [bad_meths e]) hc
      have c0 : (r.room acc.length 16).take.code = 0 := code_of (fun e => bad_meth e) c1
      have hlt : acc.length < 16 := by
        rcases Nat.lt_or_ge acc.length 16 with h8 | h8
        · exact h8
        · exact absurd c0 (room_bad h (by omega))
      rw [room_ok (by omega)] at hc c1 ⊢
      obtain ⟨l1, g1, n1⟩ := h.takeIs hi
      obtain ⟨l2, g2, n2, v2⟩ := g1.meth (by omega) c1
      obtain ⟨l3, g3, n3, q1, q2⟩ := ih (acc ++ [r.take.meth.1]) r.take.meth.2 a l2 g2 (by omega) (by omega) (by simp; omega) (fun v hv' => by
        rcases List.mem_append.1 hv' with hv' | hv'
        · exact hv v hv'
        · rw [List.mem_singleton.1 hv']; exact v2) hc
      exact ⟨l3, g3, by omega, q1, q2⟩
    · rw [if_neg hi] at hc ⊢
      exact ⟨l, h, Nat.le_refl _, ha, hv⟩
/-! ### monitors -/
structure RMo (m : Mo) : Prop where
  name : isName m.name = true
  vlen : m.vars.length ≤ 16
  mlen : m.methods.length ≤ 16
  vars : ∀ v ∈ m.vars, RV v
  meths : ∀ f ∈ m.methods, RM f
theorem bad_monB {r : Rd} (h : r.code ≠ 0) : r.monB.2 = r := by
  have h1 : r.vars = ([], r) := bad_vars h _ _
  have h2 : r.meths = ([], r) := bad_meths h _ _
  unfold Rd.monB
  rw [h1]
  dsimp only
  rw [h2]
  dsimp only
  rw [bad_must h]
theorem Gd.mon {r : Rd} {a : Int} {l : List Tk} (h : Gd r a 0 l) (hl : l.length ≤ 10000) (hc : r.mon.2.code = 0) : ∃ l', Gd r.mon.2 a 0 l' ∧ l'.length + 1 ≤ l.length ∧ RMo r.mon.1 := by
  unfold Rd.mon at hc ⊢
  by_cases hi : r.name.2.is [123] = true
  · rw [if_pos hi] at hc ⊢
    have c3 : r.name.2.enter.monB.2.code = 0 := hc
    have c2 : r.name.2.enter.code = 0 := code_of (fun e => bad_monB e) c3
    have c0 : r.name.2.code = 0 := by
      by_cases e : r.name.2.code = 0
      · exact e
      · exact absurd hi (bad_is e _)
    obtain ⟨l1, g1, n1, m1⟩ := h.name c0
    obtain ⟨_, l2, g2, n2⟩ := g1.enter hi c2
    have g2 : Gd r.name.2.enter a 1 l2 := g2
    have c3' : (r.name.2.enter.vars.2.meths.2.must [125]).code = 0 := c3
    have c4 : r.name.2.enter.vars.2.meths.2.code = 0 := code_of (fun e => bad_must e _) c3'
    have c5 : r.name.2.enter.vars.2.code = 0 := code_of (fun e => by
      have : r.name.2.enter.vars.2.meths = ([], r.name.2.enter.vars.2) := bad_meths e _ _
      rw [this]) c4
    obtain ⟨l3, g3, n3, v1, v2⟩ := vars_sound (r.name.2.enter.m + 1) [] r.name.2.enter a 1 l2 g2 (by rw [g2.m]; omega) (by decide) (by simp) c5
    obtain ⟨l4, g4, n4, w1, w2⟩ := meths_sound (r.name.2.enter.vars.2.m + 1) [] r.name.2.enter.vars.2 a l3 g3 (by omega) (by rw [show r.name.2.enter.vars.2.m = l3.length from g3.m]; omega) (by decide) (by simp) c4
    obtain ⟨l5, g5, n5⟩ := Gd.must (r := r.name.2.enter.vars.2.meths.2) g4 c3'
    exact ⟨l5, Gd.leave (o := 0) g5, by omega, m1, v1, w1, v2, w2⟩
  · rw [if_neg hi] at hc
    exfalso
    by_cases e : r.name.2.code = 0
    · obtain ⟨l1, g1, n1, m1⟩ := h.name e
      have h40 : (r.name.2.fail 40).code = 40 := by rw [g1.e]; exact fail_code
      have hc' : (r.name.2.fail 40).code = 0 := hc
      rw [h40] at hc'
      exact absurd hc' (by decide)
    · have hc' : (r.name.2.fail 40).code = 0 := hc
      rw [bad_fail e] at hc'
      exact e hc'
theorem bad_mon {r : Rd} (h : r.code ≠ 0) : r.mon.2 = r := by
  have h2 : r.name.2 = r := by rw [bad_name h]
  unfold Rd.mon
  rw [h2, if_neg (bad_is h _)]
  exact bad_fail h 40
/-! ### threads -/
structure RRo (r : Ro) : Prop where
  name : isName r.name = true
  count : 0 ≤ r.count ∧ R64 r.count
  star : r.star = true → r.count = 0
  body : RB r.body 1
theorem bad_cnt {r : Rd} (h : r.code ≠ 0) : r.cnt.2 = r := by
  unfold Rd.cnt
  rw [bad_next h, if_neg (by decide)]
  exact bad_must h _
theorem Gd.cnt {r : Rd} {a o : Int} {l : List Tk} (h : Gd r a o l) (hc : r.cnt.2.code = 0) : ∃ l', Gd r.cnt.2 a o l' ∧ l'.length + 1 = l.length ∧ (0 ≤ r.cnt.1.2 ∧ R64 r.cnt.1.2) ∧ (r.cnt.1.1 = true → r.cnt.1.2 = 0) := by
  unfold Rd.cnt at hc ⊢
  by_cases hk : r.next.kind = 2
  · rw [if_pos hk] at hc ⊢
    obtain ⟨l', g, n⟩ := h.take (by rw [hk]; decide) (by rw [hk]; decide)
    have hgt : GoodT r.next := by
      cases l with
      | nil => exact absurd rfl h.t.ne
      | cons t l => rw [h.e]; exact h.g t (by simp)
    have := hgt.2 hk
    exact ⟨l', g, n, ⟨this.1, by show R64 r.next.n; unfold R64; omega⟩, fun h => by cases h⟩
  · rw [if_neg hk] at hc ⊢
    obtain ⟨l', g, n⟩ := h.must hc
    exact ⟨l', g, n, ⟨Int.le_refl _, r64_0⟩, fun _ => rfl⟩
theorem Gd.role {r : Rd} {a : Int} {l : List Tk} (h : Gd r a 0 l) (hl : l.length ≤ 10000) (hc : r.role.2.code = 0) : ∃ l', Gd r.role.2 a 0 l' ∧ l'.length + 1 ≤ l.length ∧ RRo r.role.1 := by
  have c2 : r.name.2.cnt.2.block.2.code = 0 := hc
  have c1 : r.name.2.cnt.2.code = 0 := code_of (fun e => bad_block e) c2
  have c0 : r.name.2.code = 0 := code_of (fun e => bad_cnt e) c1
  obtain ⟨l1, g1, n1, m1⟩ := h.name c0
  obtain ⟨l2, g2, n2, q1, q2⟩ := g1.cnt c1
  obtain ⟨l3, g3, b1, _, b3⟩ := block_sound g2 (by decide) (by decide) (by omega) c2
  exact ⟨l3, g3, by omega, m1, q1, q2, b1, by show St.cnL r.name.2.cnt.2.block.1 ≤ 10000; omega⟩
theorem bad_role {r : Rd} (h : r.code ≠ 0) : r.role.2 = r := by
  have h2 : r.name.2 = r := by rw [bad_name h]
  unfold Rd.role
  dsimp only
  rw [h2, bad_cnt h, bad_block h]
/-! ### programs -/
theorem bad_prog {r : Rd} (h : r.code ≠ 0) (f : Nat) (l : List Mo) (k : List Ro) : progF f l k r = ((l, k), r) := by
  cases f with
  | zero => rfl
  | succ f => rw [progF, if_neg (fun e => h e.1)]
theorem prog_sound (f : Nat) : ∀ (ms : List Mo) (rs : List Ro) (r : Rd) (a : Int) (l : List Tk), Gd r a 0 l → l.length ≤ 10000 → ms.length ≤ 8 → rs.length ≤ 8 → (∀ m ∈ ms, RMo m) → (∀ x ∈ rs, RRo x) → (progF f ms rs r).2.code = 0 → (progF f ms rs r).1.1.length ≤ 8 ∧ (progF f ms rs r).1.2.length ≤ 8 ∧ (∀ m ∈ (progF f ms rs r).1.1, RMo m) ∧ ∀ x ∈ (progF f ms rs r).1.2, RRo x := by
  induction f with
  | zero => intro ms rs r a l _ _ h1 h2 h3 h4 _; exact ⟨h1, h2, h3, h4⟩
  | succ f ih =>
    intro ms rs r a l h hN h1 h2 h3 h4 hc
    rw [progF] at hc ⊢
    by_cases hi : r.code = 0 ∧ ¬ r.next.kind = 5
    · rw [if_pos hi] at hc ⊢
      by_cases hm : r.is wMonitor = true
      · rw [if_pos hm] at hc ⊢
        have c1 : (r.room ms.length 8).take.mon.2.code = 0 := code_of (fun e => by rw [bad_prog e]) hc
        have c0 : (r.room ms.length 8).take.code = 0 := code_of (fun e => bad_mon e) c1
        have hlt : ms.length < 8 := by
          rcases Nat.lt_or_ge ms.length 8 with h8 | h8
          · exact h8
          · exact absurd c0 (room_bad h (by omega))
        rw [room_ok (by omega)] at hc c1 ⊢
        obtain ⟨l1, g1, n1⟩ := h.takeIs hm
        obtain ⟨l2, g2, n2, v2⟩ := g1.mon (by omega) c1
        exact ih _ rs _ a l2 g2 (by omega) (by simp; omega) h2 (fun v hv' => by
          rcases List.mem_append.1 hv' with hv' | hv'
          · exact h3 v hv'
          · rw [List.mem_singleton.1 hv']; exact v2) h4 hc
      rw [if_neg hm] at hc ⊢
      by_cases ht : r.is wThread = true
      · rw [if_pos ht] at hc ⊢
        have c1 : (r.room rs.length 8).take.role.2.code = 0 := code_of (fun e => by rw [bad_prog e]) hc
        have c0 : (r.room rs.length 8).take.code = 0 := code_of (fun e => bad_role e) c1
        have hlt : rs.length < 8 := by
          rcases Nat.lt_or_ge rs.length 8 with h8 | h8
          · exact h8
          · exact absurd c0 (room_bad h (by omega))
        rw [room_ok (by omega)] at hc c1 ⊢
        obtain ⟨l1, g1, n1⟩ := h.takeIs ht
        obtain ⟨l2, g2, n2, v2⟩ := g1.role (by omega) c1
        exact ih ms _ _ a l2 g2 (by omega) h1 (by simp; omega) h3 (fun v hv' => by
          rcases List.mem_append.1 hv' with hv' | hv'
          · exact h4 v hv'
          · rw [List.mem_singleton.1 hv']; exact v2) hc
      · rw [if_neg ht] at hc
        exfalso
        have h40 : (r.fail 40).code ≠ 0 := by rw [h.e, fail_code]; decide
        rw [bad_prog h40] at hc
        exact h40 hc
    · rw [if_neg hi] at hc ⊢
      exact ⟨h1, h2, h3, h4⟩
/-- A program that is parsed. -/
structure Parsed (x : Pg) : Prop where
  small : SmP x
  num : PgNum x
  ok : checkP x = 0
  nest : nestPg x ≤ 64
theorem RB.sm {b : List St} {o : Int} (h : RB b o) : SmL b := ⟨h.all.len, h.cn, fun y hy => (h.all.all y hy).s⟩
theorem RB.num {b : List St} {o : Int} (h : RB b o) : ∀ y ∈ b, StNum y := fun y hy => (h.all.all y hy).num
theorem RB.okL {b : List St} {o : Int} (h : RB b o) : St.okL b = true := by
  rw [St.okL_all, List.all_eq_true]
  exact fun y hy => (h.all.all y hy).ok
theorem nsMts_ge : ∀ {l : List Mt} {n : Int}, n ≤ 64 → (∀ f ∈ l, St.nsL f.body 2 2 ≤ 64) → nsMts l n ≤ 64
  | [], n, hn, _ => by rw [nsMts]; exact hn
  | a :: r, n, hn, h => by
    rw [nsMts]
    have := h a (by simp)
    exact nsMts_ge (by omega) fun f hf => h f (List.mem_cons_of_mem _ hf)
theorem nsMos_ge : ∀ {l : List Mo} {n : Int}, n ≤ 64 → (∀ m ∈ l, ∀ f ∈ m.methods, St.nsL f.body 2 2 ≤ 64) → nsMos l n ≤ 64
  | [], n, hn, _ => by rw [nsMos]; exact hn
  | a :: r, n, hn, h => by
    rw [nsMos]
    exact nsMos_ge (nsMts_ge (by omega) (h a (by simp))) fun f hf => h f (List.mem_cons_of_mem _ hf)
theorem nsRos_ge : ∀ {l : List Ro} {n : Int}, n ≤ 64 → (∀ r ∈ l, St.nsL r.body 1 1 ≤ 64) → nsRos l n ≤ 64
  | [], n, hn, _ => by rw [nsRos]; exact hn
  | a :: r, n, hn, h => by
    rw [nsRos]
    have := h a (by simp)
    exact nsRos_ge (by omega) fun f hf => h f (List.mem_cons_of_mem _ hf)
theorem parsed_of {ms : List Mo} {rs : List Ro} (h1 : ms.length ≤ 8) (h2 : rs.length ≤ 8) (hm : ∀ m ∈ ms, RMo m) (hr : ∀ x ∈ rs, RRo x) : Parsed ⟨ms, rs⟩ := by
  have hok : checkP ⟨ms, rs⟩ = 0 := by
    unfold checkP
    have : Pg.ok ⟨ms, rs⟩ = true := by
      unfold Pg.ok
      simp only [Bool.and_eq_true, decide_eq_true_eq, List.all_eq_true]
      refine ⟨⟨⟨h1, h2⟩, fun m hm' => ?_⟩, fun r hr' => ?_⟩
      · have g := hm m hm'
        unfold Mo.ok
        simp only [Bool.and_eq_true, decide_eq_true_eq, List.all_eq_true]
        refine ⟨⟨⟨⟨g.name, g.vlen⟩, g.mlen⟩, fun v hv => (g.vars v hv).ok⟩, fun f hf => ?_⟩
        unfold Mt.ok
        rw [(g.meths f hf).name, (g.meths f hf).body.okL]; rfl
      · have g := hr r hr'
        unfold Ro.ok
        rw [g.name, decide_eq_true g.count.1, g.body.okL]
        cases hs : r.star with
        | false => rfl
        | true => rw [g.star hs]; rfl
    rw [this]; rfl
  refine ⟨⟨by show ms.length ≤ 20; omega, by show rs.length ≤ 20; omega, fun m hm' => ?_, fun r hr' => ?_⟩, ⟨fun m hm' => ?_, fun r hr' => ?_⟩, hok, ?_⟩
  · have g := hm m hm'
    have gn := (isName_is g.name).2.1
    exact ⟨by omega, by have := g.vlen; omega, by have := g.mlen; omega, fun v hv => (g.vars v hv).name, fun f hf => ⟨by have := (isName_is (g.meths f hf).name).2.1; omega, (g.meths f hf).body.sm⟩⟩
  · have g := hr r hr'
    exact ⟨by have := (isName_is g.name).2.1; omega, g.body.sm⟩
  · have g := hm m hm'
    exact ⟨fun v hv => (g.vars v hv).num, fun f hf => (g.meths f hf).body.num⟩
  · have g := hr r hr'
    exact ⟨g.count.2, g.body.num⟩
  · unfold nestPg
    rw [hok, if_neg (by decide)]
    exact nsRos_ge (nsMos_ge (by decide) fun m hm' f hf => ((hm m hm').meths f hf).body.all.d 2 (by decide)) fun r hr' => (hr r hr').body.all.d 1 (by decide)
theorem Lx.len {w : Str} {a : Nat} {ts : List Tk} (h : Lx w a ts) : ts.length ≤ w.length := by
  induction h with
  | nil a => exact Nat.le_refl _
  | skip hw h g ih => rw [List.length_drop] at ih; omega
  | @tok w a n k v ts hw h g ih =>
    obtain ⟨h1, h2⟩ := tok_self hw h
    have h3 : 0 < (w.take n).length := List.length_pos_iff.2 h1.1
    rw [List.length_drop] at ih
    have h4 : (w.take n).length ≤ w.length := by rw [List.length_take]; omega
    rw [List.length_cons]; omega
theorem parse_sound {s : Str} (hs : s.length ≤ 4000) (h : (parseS s).2.1 = 0) : Parsed (parseS s).1 := by
  unfold parseS at h ⊢
  by_cases h1 : (scanS s).2.1 = 0
  · rw [if_pos h1] at h ⊢
    by_cases h2 : (Rd.mk 0 0 (scanS s).1 0).prog.2.code = 0
    · rw [if_pos h2]
      have hok := scanS_ok h1
      have hlen : (scanS s).1.length ≤ 10000 := by
        obtain ⟨_, ts, k1, k2⟩ := scanS_Lx h1
        have := k1.len
        rw [k2, List.length_append, List.length_singleton]
        omega
      have hg : Gd (Rd.mk 0 0 (scanS s).1 0) 0 0 (scanS s).1 := ⟨rfl, ⟨hok.last, hok.len⟩, scan_good h1⟩
      obtain ⟨q1, q2, q3, q4⟩ := prog_sound _ [] [] _ 0 _ hg hlen (by decide) (by decide) (by simp) (by simp) h2
      exact parsed_of q1 q2 q3 q4
    · rw [if_neg h2] at h
      exact absurd h h2
  · rw [if_neg h1] at h
    exact absurd h h1
end Go.Proofs.YtmflfcbebeikcaaGreatDoor.Q

namespace Go.Proofs.YtmflfcbebeikcaaGreatDoor.Q
open Go.RowKit
variable [Amb] [Pow]
theorem nil_fit : Pg.Fit ⟨[], []⟩ := ⟨by show 0 < big; decide, by show 0 < big; decide, by simp, by simp, by simp, by simp⟩
theorem parse_fit (s : Str) : (parseS s).1.Fit := by
  unfold parseS
  by_cases h1 : (scanS s).2.1 = 0
  · rw [if_pos h1]
    split
    · obtain ⟨hl, ts, k1, k2⟩ := scanS_Lx h1
      have := k1.len
      refine prog_fit (r := Rd.mk 0 0 (scanS s).1 0) ?_
      show (scanS s).1.length ≤ 30000
      rw [k2, List.length_append, List.length_singleton]
      omega
    · exact nil_fit
  · rw [if_neg h1]
    exact nil_fit
theorem back_facts {p : Pg} (A : PgAll p) (hc : checkP p = 0) (hn : nestPg p ≤ 64) : (textP p).1.length ≤ 20000 ∧ ((textP p).2 = 1 ∨ (textP p).2 = 0 ∧ ∃ y : Pg, parseS (textP p).1 = (y, 0, 0) ∧ p.same y = true ∧ y.Fit) := by
  have e : textP p = toldS (textS p) := by
    unfold textP
    rw [if_neg (by rw [hc]; decide), if_neg (by omega)]
  by_cases h : (textS p).length > 20000
  · have e1 : textP p = ([], 1) := by rw [e]; unfold toldS; rw [if_pos h]
    rw [e1]
    exact ⟨by decide, .inl rfl⟩
  · have e1 : textP p = (textS p, 0) := by rw [e]; unfold toldS; rw [if_neg h]
    rw [e1]
    have hl : (textS p).length ≤ 20000 := by omega
    obtain ⟨q, q1, q2⟩ := prog_back p (A.k hc) hn hl
    refine ⟨hl, .inr ⟨rfl, q, q1, (Pg.same_er p q).2 q2.symm, ?_⟩⟩
    have := parse_fit (textS p)
    rw [q1] at this
    exact this
theorem parseBack_t (p : Pg) (s : Str) (hp : PgNum p) (_ : s.length ≤ maxLen) : PFun Tryz.prog 4 [p.v, sv' s] [] (.d (.bool true)) [] := by
  refine fn_sem pok 96 0 Tryz.func4 (by kernel_rfl) rfl rfl rfl rfl ?_
  refine SWp.go pok (by kernel_rfl) ?_
  refine PCalls.mono (small02_c p 400 (by decide) (by decide)) ?_
  rintro r h' ⟨b, rfl, rfl, hb⟩
  cases b with
  | false => exact PFun.call live04_c (fin1 rfl)
  | true =>
  refine brP_split (fun h => ?_) (fun h => ?_)
  · exact PFun.call live04_c (fin1 rfl)
  have hs : s.length ≤ 4000 := by simp at h; omega
  have A := (hb rfl).all hp
  have ct := text_c p A.f A.n A.p
  have cx := parse_c s (by omega)
  have F2 : (parseS s).2.1 = 0 → PFun Tryz.prog 16 [(parseS s).1.v] [] (iv 0) [] ∧ PFun Tryz.prog 7 [(parseS s).1.v] [] (.tup [sv' (textP (parseS s).1).1, iv (textP (parseS s).1).2]) [] ∧ (parseS s).1.Fit ∧ (textP (parseS s).1).1.length ≤ 20000 ∧ ((textP (parseS s).1).2 = 1 ∨ (textP (parseS s).1).2 = 0 ∧ ∃ y : Pg, parseS (textP (parseS s).1).1 = (y, 0, 0) ∧ (parseS s).1.same y = true ∧ y.Fit) := fun h => by
    have P := parse_sound hs h
    have X := P.small.all P.num
    have cc := check_c (parseS s).1 X.f
    rw [P.ok] at cc
    obtain ⟨k1, k2⟩ := back_facts X P.ok P.nest
    exact ⟨cc, text_c _ X.f X.n X.p, X.fit, k1, k2⟩
  have F1 : (textP p).2 = 0 → (textP p).1.length ≤ 20000 ∧ ∃ y : Pg, parseS (textP p).1 = (y, 0, 0) ∧ p.same y = true ∧ y.Fit := fun h => by
    obtain ⟨k1, k2, k3, k4⟩ := textP_ok h
    obtain ⟨g1, g2⟩ := back_facts A k1 k2
    rcases g2 with g2 | ⟨_, g2⟩
    · rw [h] at g2; exact absurd g2 (by decide)
    · exact ⟨g1, g2⟩
  have hfit := A.fit
  clear A hb hp
  generalize textP p = t0 at ct F1
  generalize parseS s = x at cx F2
  obtain ⟨t1, t2⟩ := t0
  dsimp only at ct F1
  refine PFun.call ct ?_
  refine PFun.call (num04_c _) ?_
  refine brP_split (fun h0 => ?_) (fun h0 => ?_)
  · have h0 : t2 = 0 := by simpa using h0
    obtain ⟨g0, q, g1, g2, g3⟩ := F1 h0
    have c1 := parse_c t1 (by omega)
    rw [g1] at c1
    refine PFun.call c1 ?_
    refine PFun.call (num04_c _) ?_
    have cs := same_c p q hfit g3
    rw [g2] at cs
    refine PFun.call cs ?_
    refine PFun.call cx ?_
    refine PFun.call (num04_c _) ?_
    refine brP_split (fun h => ?_) (fun h => ?_)
    · exact PFun.call live04_c (fin1 rfl)
    have h : x.2.1 = 0 := by simpa using h
    obtain ⟨k1, k2, k3, k4, k5⟩ := F2 h
    refine PFun.call k1 ?_
    refine PFun.call (num04_c _) ?_
    refine PFun.call k2 ?_
    have c3 := parse_c (textP x.1).1 (by omega)
    generalize textP x.1 = t at k4 k5 c3 ⊢
    rcases k5 with e | ⟨e, y, e1, e2, e3⟩
    · obtain ⟨t1, t2⟩ := t
      dsimp only at e c3
      subst e
      refine PFun.call c3 ?_
      refine PFun.call (num04_c _) ?_
      refine PFun.call live04_c ?_
      exact fin1 rfl
    · obtain ⟨t1, t2⟩ := t
      dsimp only at e e1 c3
      subst e
      rw [e1] at c3
      refine PFun.call c3 ?_
      refine PFun.call (num04_c _) ?_
      refine PFun.call (num04_c _) ?_
      refine PFun.call (num04_c _) ?_
      have cs := same_c x.1 y k3 e3
      rw [e2] at cs
      refine PFun.call cs ?_
      refine PFun.call live04_c ?_
      exact fin1 rfl
  · skip
    refine PFun.call cx ?_
    refine PFun.call (num04_c _) ?_
    refine brP_split (fun h => ?_) (fun h => ?_)
    · exact PFun.call live04_c (fin1 rfl)
    have h : x.2.1 = 0 := by simpa using h
    obtain ⟨k1, k2, k3, k4, k5⟩ := F2 h
    refine PFun.call k1 ?_
    refine PFun.call (num04_c _) ?_
    refine PFun.call k2 ?_
    have c3 := parse_c (textP x.1).1 (by omega)
    generalize textP x.1 = t at k4 k5 c3 ⊢
    rcases k5 with e | ⟨e, y, e1, e2, e3⟩
    · obtain ⟨t1, t2⟩ := t
      dsimp only at e c3
      subst e
      refine PFun.call c3 ?_
      refine PFun.call (num04_c _) ?_
      refine PFun.call live04_c ?_
      exact fin1 rfl
    · obtain ⟨t1, t2⟩ := t
      dsimp only at e e1 c3
      subst e
      rw [e1] at c3
      refine PFun.call c3 ?_
      refine PFun.call (num04_c _) ?_
      refine PFun.call (num04_c _) ?_
      refine PFun.call (num04_c _) ?_
      have cs := same_c x.1 y k3 e3
      rw [e2] at cs
      refine PFun.call cs ?_
      refine PFun.call live04_c ?_
      exact fin1 rfl
end Go.Proofs.YtmflfcbebeikcaaGreatDoor.Q
