/- The law of the grammar and the parser. No condition. -/
import Derived.Test.YtmflfcbebeikcaaGreatMJ
import Derived.Test.YtmflfcbebeikcaaGreatMI
import Derived.Test.YtmflfcbebeikcaaGreatMF
set_option linter.unusedVariables false
set_option linter.unusedSectionVars false
set_option linter.unnecessarySimpa false
set_option linter.unusedSimpArgs false
set_option maxRecDepth 100000
set_option maxHeartbeats 4000000
namespace Go.Proofs.YtmflfcbebeikcaaGreat.Q
open Go.RowKit
variable [Amb]
/-! ### shapes -/
theorem stH_of {s : St} (hs : SF s) : s.ok = true → StH s := by
  induction hs with
  | @mk kind mon name n e blocks pl hm hn he hb hl k ih =>
    intro h
    rw [St.ok] at h
    simp only [Bool.and_eq_true] at h
    refine .mk (head_is h.1) fun b hb' y hy => ih b hb' y hy ?_
    have h2 := h.2
    rw [St.okB_all] at h2
    have h3 := List.all_eq_true.1 h2 b hb'
    rw [St.okL_all] at h3
    exact List.all_eq_true.1 h3 y hy
theorem ba_of {b : List St} (h : BF b) (hk : St.okL b = true) : BA b := LA.block (LA.all fun y hy => stmtA _ y (Nat.le_refl _) (stH_of (h.fit y hy) (by rw [St.okL_all] at hk; exact List.all_eq_true.1 hk y hy)))
theorem vrH_of {v : Vr} (h : v.ok = true) (h1 : R64 v.lo) (h2 : R64 v.hi) (h3 : R64 v.init) : VrH v := by
  refine ⟨h1, h2, h3, ?_⟩
  unfold Vr.ok at h
  simp only [Bool.and_eq_true] at h
  have h := h.2
  by_cases k1 : v.type = 1
  · rw [if_pos k1] at h
    simp only [Bool.and_eq_true, Bool.or_eq_true, beq_iff_eq] at h
    exact .inl ⟨k1, h.1.1, h.1.2, h.2⟩
  rw [if_neg k1] at h
  by_cases k2 : v.type = 2
  · rw [if_pos k2] at h
    simp only [Bool.and_eq_true, beq_iff_eq] at h
    exact .inr (.inl ⟨k2, h.1, h.2⟩)
  rw [if_neg k2] at h
  by_cases k3 : v.type = 3
  · rw [if_pos k3] at h
    exact .inr (.inr ⟨k3, by simpa using h⟩)
  · rw [if_neg k3] at h; cases h
structure MoW (m : Mo) : Prop where
  g : MoG m
  a : OA m
structure RoW (r : Ro) : Prop where
  g : BdG r.body
  a : TA r
theorem RLq.bf {b : List St} (h : RLq b) : BF b := ⟨by have := h.len; omega, fun y hy => (h.all y hy).sf⟩
theorem RLq.okL {b : List St} (h : RLq b) : St.okL b = true := by
  rw [St.okL_all, List.all_eq_true]
  exact fun y hy => (h.all y hy).ok
theorem RMoq.w {m : Mo} (h : RMoq m) : MoW m :=
  ⟨⟨by have := h.vlen; omega, by have := h.mlen; omega, fun f hf => bdG_of (h.meths f hf).body.bf (h.meths f hf).body.okL⟩, monA ⟨h.vlen, h.mlen, fun v hv => varA (h.vars v hv).h, fun f hf => methA (ba_of (h.meths f hf).body.bf (h.meths f hf).body.okL)⟩⟩
theorem RRoq.w {r : Ro} (h : RRoq r) : RoW r := ⟨bdG_of h.body.bf h.body.okL, roleA ⟨h.star, ba_of h.body.bf h.body.okL⟩⟩
/-- The numbers of a program's variables. -/
def PgR (p : Pg) : Prop := ∀ m ∈ p.mons, ∀ v ∈ m.vars, R64 v.lo ∧ R64 v.hi ∧ R64 v.init
structure PgW (p : Pg) : Prop where
  ml : p.mons.length ≤ 8
  rl : p.roles.length ≤ 8
  mons : ∀ m ∈ p.mons, MoW m
  roles : ∀ r ∈ p.roles, RoW r
theorem pgW_of {p : Pg} (h : PgF p) (hc : checkP p = 0) (hr : PgR p) : PgW p := by
  have hg := pgG_of h hc
  have hok : p.ok = true := by
    unfold checkP at hc
    split at hc
    · assumption
    · cases hc
  unfold Pg.ok at hok
  simp only [Bool.and_eq_true, decide_eq_true_eq, List.all_eq_true] at hok
  obtain ⟨⟨⟨h1, h2⟩, h3⟩, h4⟩ := hok
  refine ⟨h1, h2, fun m hm => ⟨hg.mon m hm, ?_⟩, fun r hr' => ⟨hg.role r hr', ?_⟩⟩
  · have hf := h.mons m hm
    have hmo := h3 m hm
    unfold Mo.ok at hmo
    simp only [Bool.and_eq_true, decide_eq_true_eq, List.all_eq_true] at hmo
    obtain ⟨⟨⟨⟨_, v1⟩, v2⟩, v3⟩, v4⟩ := hmo
    refine monA ⟨v1, v2, fun v hv => ?_, fun f hf' => ?_⟩
    · obtain ⟨r1, r2, r3⟩ := hr m hm v hv
      exact varA (vrH_of (v3 v hv) r1 r2 r3)
    · have hfo := v4 f hf'
      unfold Mt.ok at hfo
      simp only [Bool.and_eq_true] at hfo
      exact methA (ba_of (hf.meths f hf').body hfo.2)
  · have ho := h4 r hr'
    unfold Ro.ok at ho
    simp only [Bool.and_eq_true] at ho
    refine roleA ⟨fun hs => ?_, ba_of (h.roles r hr').body ho.2⟩
    have := ho.1.2
    rw [hs] at this
    simpa using this
/-! ### tokens of a text -/
structure TkL (l : List Tk) : Prop where
  tl : Tl l
  good : GoodL l
  kw : KW l
  no5 : ∀ k t, l = k ++ [t] → ∀ x ∈ k, x.kind ≠ 5
  len : l.length ≤ 10000
theorem KW.dropN {l : List Tk} (h : KW l) (a : Nat) : KW (l.drop a) := fun t ht => h t (List.mem_of_mem_drop ht)
theorem GoodL.dropN {l : List Tk} (h : GoodL l) (a : Nat) : GoodL (l.drop a) := fun t ht => h t (List.mem_of_mem_drop ht)
theorem Tl.dropN {l : List Tk} (h : Tl l) {a : Nat} (ha : a < l.length) : Tl (l.drop a) := by
  have h' : Tl (l.take a ++ l.drop a) := by rw [List.take_append_drop]; exact h
  exact h'.drop (by intro e; have := congrArg List.length e; simp at this; omega)
theorem rd_inj {a o b q : Int} {l k : List Tk} (h : rd a o l = rd b q k) : l = k := by
  unfold rd at h
  injection h
theorem TkL.ended {l : List Tk} (h : TkL l) : endedS l = true := by
  obtain ⟨k, t, e, h5⟩ := h.tl.last
  refine endedS_iff.2 ⟨k, t, e, by unfold isEnd; simpa using h5, fun x hx => ?_⟩
  unfold isEnd
  simpa using h.no5 k t e x hx
/-- Where the end is. -/
theorem TkL.at5 {l : List Tk} (h : TkL l) {a : Nat} {t : Tk} {rest : List Tk} (e : l.drop a = t :: rest) : t.kind = 5 ↔ a + 1 = l.length := by
  have hlen : l.length - a = rest.length + 1 := by have := congrArg List.length e; simpa using this
  obtain ⟨k, u, ek, h5⟩ := h.tl.last
  have hk : l.length = k.length + 1 := by rw [ek]; simp
  constructor
  · intro ht
    refine Classical.byContradiction fun hne => ?_
    have hak : a < k.length := by omega
    have : t ∈ k := by
      rw [ek, List.drop_append_of_le_length (by omega)] at e
      cases hd : k.drop a with
      | nil => have := congrArg List.length hd; simp at this; omega
      | cons x r =>
        rw [hd] at e
        injection e with e _
        exact e ▸ List.mem_of_mem_drop (by rw [hd]; exact List.mem_cons_self)
    exact h.no5 k u ek t this ht
  · intro ha
    have hak : a = k.length := by omega
    subst hak
    rw [ek, List.drop_left] at e
    injection e with e _
    rw [← e]; exact h5
/-! ### sets of one place -/
def AtP (S : List Int) (a : Nat) : Prop := ∀ x ∈ S, x = (a : Int)
theorem AtP.ok {S : List Int} {a : Nat} (h : AtP S a) : OkS 0 S := fun x hx => by have := h x hx; omega
theorem AtP.mem {S : List Int} {a : Nat} (h : AtP S a) (hne : S ≠ []) : (a : Int) ∈ S := by
  cases S with
  | nil => exact absurd rfl hne
  | cons x r => rw [← h x List.mem_cons_self]; exact List.mem_cons_self
theorem wS_ne {l : List Tk} {S : List Int} {a : Nat} (h : AtP S a) (hm : (a : Int) ∈ S) {t : Tk} {rest : List Tk} (e : l.drop a = t :: rest) (w : Str) : wS l w S = [] ↔ ¬ t.sg w := by
  have hat : l[a]? = some t := by
    have := congrArg List.head? e
    rw [List.head?_drop] at this
    simpa using this
  have key : ∀ j, j ∈ wS l w S ↔ isS w t = true ∧ j = a + 1 := fun j => by
    rw [show wS l w S = stepS l (isS w) S from rfl, mem_stepS]
    constructor
    · rintro ⟨i, h1, h2, rfl⟩
      rw [h i h1] at h2 ⊢
      unfold okAt at h2
      rw [Int.toNat_natCast, hat] at h2
      exact ⟨h2, rfl⟩
    · rintro ⟨h1, rfl⟩
      refine ⟨_, hm, ?_, rfl⟩
      unfold okAt
      rw [Int.toNat_natCast, hat]; exact h1
  constructor
  · intro h0 ht
    have := (key _).2 ⟨isS_sg.2 ht, rfl⟩
    rw [h0] at this; cases this
  · intro h0
    refine List.eq_nil_iff_forall_not_mem.2 fun j hj => h0 (isS_sg.1 ((key j).1 hj).1)
/-- What is derived at a place is what is parsed there. -/
theorem at_gen {α : Type} {l : List Tk} (hT : TkL l) {f : PS} {R : TR} (hs : SpecS l f R) {w : Str} {P : Rd → α × Rd} {E : α → Prop}
    (hA : ∀ ts, R ts → ∃ t ts', ts = t :: ts' ∧ t.sg w ∧ (∃ k u, ts = k ++ [u] ∧ u.sg [125]) ∧ ∀ (a : Int) (vs : List Tk), vs ≠ [] → KW (ts' ++ vs) → Tl (ts' ++ vs) → (∃ m' : α, E m' ∧ P (rd a 0 (ts' ++ vs)) = (m', rd a 0 vs)) ∨ (P (rd a 0 (ts' ++ vs))).2.code = 41)
    {a : Nat} {S : List Int} (hS : AtP S a) (ha : a < l.length) {j : Int} (hj : j ∈ f S) :
    ∃ t rest, l.drop a = t :: rest ∧ t.sg w ∧ ((P (rd 0 0 rest)).2.code = 41 ∨ ∃ m' b, P (rd 0 0 rest) = (m', rd 0 0 (l.drop b)) ∧ E m' ∧ j = (b : Int) ∧ a < b ∧ b < l.length) := by
  obtain ⟨a', h1, ts, ⟨vs, hv⟩, h3, rfl⟩ := (hs S hS.ok j).1 hj
  have : a' = a := by have := hS _ h1; omega
  subst this
  obtain ⟨t, ts', e1, ht, ⟨k, u, e2, hu⟩, hP⟩ := hA ts h3
  have hla := hT.tl.dropN ha
  have hvs : vs ≠ [] := by
    rintro rfl
    rw [List.append_nil] at hv
    obtain ⟨k', u', e', h5⟩ := hla.last
    rw [← hv, e2] at e'
    obtain ⟨_, e'⟩ := List.append_inj' e' rfl
    injection e' with e'
    rw [← e'] at h5
    exact (sg_kind hu).2.2 h5
  have hd : l.drop a' = t :: (ts' ++ vs) := by rw [← hv, e1]; rfl
  have hT2 : Tl (t :: (ts' ++ vs)) := by rw [← hd]; exact hla
  have hK2 : KW (t :: (ts' ++ vs)) := by rw [← hd]; exact hT.kw.dropN a'
  refine ⟨t, ts' ++ vs, hd, ht, ?_⟩
  rcases hP 0 vs hvs hK2.tail (hT2.tail (by simp [hvs])) with ⟨m', g1, g2⟩ | hb
  · have hdb : l.drop (a' + ts.length) = vs := by rw [← List.drop_drop, ← hv, List.drop_left]
    refine .inr ⟨m', a' + ts.length, by rw [g2, hdb], g1, by omega, by rw [e1]; simp, ?_⟩
    rcases Nat.lt_or_ge (a' + ts.length) l.length with h6 | h6
    · exact h6
    · rw [List.drop_eq_nil_of_le h6] at hdb
      exact absurd hdb.symm hvs
  · exact .inl hb
/-- All places behind. -/
theorem at_all {α : Type} {l : List Tk} (hT : TkL l) {f : PS} {R : TR} (hs : SpecS l f R) {w : Str} {P : Rd → α × Rd} {E : α → Prop}
    (hA : ∀ ts, R ts → ∃ t ts', ts = t :: ts' ∧ t.sg w ∧ (∃ k u, ts = k ++ [u] ∧ u.sg [125]) ∧ ∀ (a : Int) (vs : List Tk), vs ≠ [] → KW (ts' ++ vs) → Tl (ts' ++ vs) → (∃ m' : α, E m' ∧ P (rd a 0 (ts' ++ vs)) = (m', rd a 0 vs)) ∨ (P (rd a 0 (ts' ++ vs))).2.code = 41)
    {a : Nat} {S : List Int} (hS : AtP S a) (ha : a < l.length) (hne : f S ≠ []) :
    ∃ t rest, l.drop a = t :: rest ∧ t.sg w ∧ ((P (rd 0 0 rest)).2.code = 41 ∨ ∃ m' b, P (rd 0 0 rest) = (m', rd 0 0 (l.drop b)) ∧ E m' ∧ AtP (f S) b ∧ a < b ∧ b < l.length) := by
  obtain ⟨j, hj⟩ : ∃ j, j ∈ f S := by
    cases h : f S with
    | nil => exact absurd h hne
    | cons x r => exact ⟨x, List.mem_cons_self⟩
  obtain ⟨t, rest, h1, h2, h3⟩ := at_gen hT hs hA hS ha hj
  refine ⟨t, rest, h1, h2, ?_⟩
  rcases h3 with h3 | ⟨m', b, h4, h5, h6, h7, h8⟩
  · exact .inl h3
  · refine .inr ⟨m', b, h4, h5, fun x hx => ?_, h7, h8⟩
    obtain ⟨t', rest', g1, g2, g3⟩ := at_gen hT hs hA hS ha hx
    rw [h1] at g1
    injection g1 with g0 g1
    subst g0; subst g1
    rcases g3 with g3 | ⟨m2, b2, g4, g5, g6, g7, g8⟩
    · rw [h4] at g3; cases g3
    · rw [h4] at g4
      injection g4 with g4 g9
      have := congrArg List.length (rd_inj g9)
      simp at this
      omega
end Go.Proofs.YtmflfcbebeikcaaGreat.Q

namespace Go.Proofs.YtmflfcbebeikcaaGreat.Q
open Go.RowKit
variable [Amb]
theorem mon_all {l : List Tk} (hT : TkL l) {m : Mo} (hm : MoW m) {a : Nat} {S : List Int} (hS : AtP S a) (ha : a < l.length) (hne : monF l m S ≠ []) :
    ∃ t rest, l.drop a = t :: rest ∧ t.sg wMonitor ∧ ((rd 0 0 rest).mon.2.code = 41 ∨ ∃ m' b, (rd 0 0 rest).mon = (m', rd 0 0 (l.drop b)) ∧ m'.er = m.er ∧ AtP (monF l m S) b ∧ a < b ∧ b < l.length) :=
  at_all (E := fun m' => m'.er = m.er) (P := Rd.mon) hT (spec_mon hm.g) hm.a hS ha hne
theorem role_all {l : List Tk} (hT : TkL l) {m : Ro} (hm : RoW m) {a : Nat} {S : List Int} (hS : AtP S a) (ha : a < l.length) (hne : roleF l m S ≠ []) :
    ∃ t rest, l.drop a = t :: rest ∧ t.sg wThread ∧ ((rd 0 0 rest).role.2.code = 41 ∨ ∃ m' b, (rd 0 0 rest).role = (m', rd 0 0 (l.drop b)) ∧ m'.er = m.er ∧ AtP (roleF l m S) b ∧ a < b ∧ b < l.length) :=
  at_all (E := fun m' => m'.er = m.er) (P := Rd.role) hT (spec_role hm.g) hm.a hS ha hne
theorem sgM_T {t : Tk} (h : t.sg wMonitor) : ¬ t.sg wThread := sg_not h (by decide)
theorem sgT_M {t : Tk} (h : t.sg wThread) : ¬ t.sg wMonitor := sg_not h (by decide)
/-! ### the parser's steps -/
theorem prog_end {t : Tk} {rest : List Tk} (h5 : t.kind = 5) (f : Nat) (ms : List Mo) (rs : List Ro) : progF f ms rs (rd 0 0 (t :: rest)) = ((ms, rs), rd 0 0 (t :: rest)) := by
  cases f with
  | zero => rfl
  | succ f => rw [progF, if_neg (fun h => h.2 h5)]
theorem prog_mon {t : Tk} {rest : List Tk} (hr : rest ≠ []) (ht : t.sg wMonitor) (f : Nat) {ms : List Mo} (hl : ms.length < 8) (rs : List Ro) : progF (f + 1) ms rs (rd 0 0 (t :: rest)) = progF f (ms ++ [(rd 0 0 rest).mon.1]) rs (rd 0 0 rest).mon.2 := by
  rw [progF, if_pos ⟨rfl, (sg_kind ht).2.2⟩, if_pos (is_yes ht), room_ok (by omega), rd_take 0 0 t hr]
theorem prog_role {t : Tk} {rest : List Tk} (hr : rest ≠ []) (ht : t.sg wThread) (f : Nat) (ms : List Mo) {rs : List Ro} (hl : rs.length < 8) : progF (f + 1) ms rs (rd 0 0 (t :: rest)) = progF f ms (rs ++ [(rd 0 0 rest).role.1]) (rd 0 0 rest).role.2 := by
  rw [progF, if_pos ⟨rfl, (sg_kind ht).2.2⟩, if_neg (is_not (sgT_M ht)), if_pos (is_yes ht), room_ok (by omega), rd_take 0 0 t hr]
theorem rest_ne {l : List Tk} (hT : TkL l) {a : Nat} (ha : a < l.length) {t : Tk} {rest : List Tk} (e : l.drop a = t :: rest) {w : Str} (ht : t.sg w) : rest ≠ [] := by
  rintro rfl
  have h1 := congrArg List.length e
  simp at h1
  have := (hT.at5 e).2 (by omega)
  exact (sg_kind ht).2.2 this
theorem gprogF_ne {l : List Tk} {k : Nat} {ms : List Mo} {rs : List Ro} {S : List Int} (h : gprogF l k ms rs S = true) : S ≠ [] := by
  rintro rfl
  cases k with
  | zero => cases h
  | succ k => rw [gprogF_nil] at h; cases h
/-- What is derived is parsed, or too deep. -/
theorem der_parse {l : List Tk} (hT : TkL l) : ∀ (k : Nat) (ms' : List Mo) (rs' : List Ro) (S : List Int) (f : Nat) (ms : List Mo) (rs : List Ro) (a : Nat), a < l.length → l.length < f + a → ms.length + ms'.length ≤ 8 → rs.length + rs'.length ≤ 8 → (∀ m ∈ ms', MoW m) → (∀ x ∈ rs', RoW x) → AtP S a → gprogF l k ms' rs' S = true →
    (progF f ms rs (rd 0 0 (l.drop a))).2.code = 41 ∨ ∃ ms2 rs2, (progF f ms rs (rd 0 0 (l.drop a))).1 = (ms ++ ms2, rs ++ rs2) ∧ (progF f ms rs (rd 0 0 (l.drop a))).2.code = 0 ∧ ms2.map Mo.er = ms'.map Mo.er ∧ rs2.map Ro.er = rs'.map Ro.er := by
  intro k
  induction k with
  | zero => intro ms' rs' S f ms rs a _ _ _ _ _ _ _ h; cases h
  | succ k ih =>
    intro ms' rs' S f ms rs a ha hf h1 h2 hm hr hS h
    have hne := gprogF_ne h
    have hmem := hS.mem hne
    cases f with
    | zero => omega
    | succ f =>
    have stepM : ∀ (m : Mo) (ms'' : List Mo), ms' = m :: ms'' → gprogF l k ms'' rs' (monF l m S) = true → (progF (f + 1) ms rs (rd 0 0 (l.drop a))).2.code = 41 ∨ ∃ ms2 rs2, (progF (f + 1) ms rs (rd 0 0 (l.drop a))).1 = (ms ++ ms2, rs ++ rs2) ∧ (progF (f + 1) ms rs (rd 0 0 (l.drop a))).2.code = 0 ∧ ms2.map Mo.er = ms'.map Mo.er ∧ rs2.map Ro.er = rs'.map Ro.er := by
      rintro m ms'' rfl hg
      obtain ⟨t, rest, e1, ht, hP⟩ := mon_all hT (hm m List.mem_cons_self) hS ha (gprogF_ne hg)
      simp only [List.length_cons] at h1
      rw [e1, prog_mon (rest_ne hT ha e1 ht) ht f (by omega) rs]
      rcases hP with hb | ⟨m', b, g1, g2, g3, g4, g5⟩
      · rw [bad_prog (bad41 hb)]
        exact .inl hb
      · rw [g1]
        dsimp only
        rcases ih ms'' rs' _ f (ms ++ [m']) rs b g5 (by omega) (by simp; omega) h2 (fun x hx => hm x (List.mem_cons_of_mem _ hx)) hr g3 hg with hb | ⟨ms2, rs2, q1, q2, q3, q4⟩
        · exact .inl hb
        · exact .inr ⟨m' :: ms2, rs2, by rw [q1]; simp, q2, by rw [List.map_cons, List.map_cons, g2, q3], q4⟩
    have stepR : ∀ (x : Ro) (rs'' : List Ro), rs' = x :: rs'' → gprogF l k ms' rs'' (roleF l x S) = true → (progF (f + 1) ms rs (rd 0 0 (l.drop a))).2.code = 41 ∨ ∃ ms2 rs2, (progF (f + 1) ms rs (rd 0 0 (l.drop a))).1 = (ms ++ ms2, rs ++ rs2) ∧ (progF (f + 1) ms rs (rd 0 0 (l.drop a))).2.code = 0 ∧ ms2.map Mo.er = ms'.map Mo.er ∧ rs2.map Ro.er = rs'.map Ro.er := by
      rintro x rs'' rfl hg
      obtain ⟨t, rest, e1, ht, hP⟩ := role_all hT (hr x List.mem_cons_self) hS ha (gprogF_ne hg)
      simp only [List.length_cons] at h2
      rw [e1, prog_role (rest_ne hT ha e1 ht) ht f ms (by omega)]
      rcases hP with hb | ⟨m', b, g1, g2, g3, g4, g5⟩
      · rw [bad_prog (bad41 hb)]
        exact .inl hb
      · rw [g1]
        dsimp only
        rcases ih ms' rs'' _ f ms (rs ++ [m']) b g5 (by omega) h1 (by simp; omega) hm (fun x hx => hr x (List.mem_cons_of_mem _ hx)) g3 hg with hb | ⟨ms2, rs2, q1, q2, q3, q4⟩
        · exact .inl hb
        · exact .inr ⟨ms2, m' :: rs2, by rw [q1]; simp, q2, q3, by rw [List.map_cons, List.map_cons, g2, q4]⟩
    cases ms' with
    | nil =>
      cases rs' with
      | nil =>
        simp only [gprogF, if_neg hne, decide_eq_true_eq] at h
        have hal : a + 1 = l.length := by have := hS _ h; omega
        cases hd : l.drop a with
        | nil => have := congrArg List.length hd; simp at this; omega
        | cons t rest =>
          rw [prog_end ((hT.at5 hd).2 hal)]
          exact .inr ⟨[], [], by simp, rfl, rfl, rfl⟩
      | cons x rs'' =>
        simp only [gprogF, if_neg hne] at h
        split at h
        · cases h
        · exact stepR x rs'' rfl h
    | cons m ms'' =>
      cases rs' with
      | nil =>
        simp only [gprogF, if_neg hne] at h
        split at h
        · cases h
        · exact stepM m ms'' rfl h
      | cons x rs'' =>
        simp only [gprogF, if_neg hne] at h
        split at h
        · split at h
          · cases h
          · exact stepR x rs'' rfl h
        · exact stepM m ms'' rfl h
/-- What is parsed is derived. -/
theorem parse_der {l : List Tk} (hT : TkL l) : ∀ (f : Nat) (ms : List Mo) (rs : List Ro) (a : Nat), a < l.length → l.length < f + a → ms.length ≤ 8 → rs.length ≤ 8 → (progF f ms rs (rd 0 0 (l.drop a))).2.code = 0 →
    ∃ ms' rs', (progF f ms rs (rd 0 0 (l.drop a))).1 = (ms ++ ms', rs ++ rs') ∧ ms.length + ms'.length ≤ 8 ∧ rs.length + rs'.length ≤ 8 ∧ (∀ m ∈ ms', RMoq m) ∧ (∀ x ∈ rs', RRoq x) ∧ ∀ S, AtP S a → S ≠ [] → ∀ k, ms'.length + rs'.length < k → gprogF l k ms' rs' S = true := by
  intro f
  induction f with
  | zero => intro ms rs a ha hf; omega
  | succ f ih =>
    intro ms rs a ha hf h1 h2 hc
    cases hd : l.drop a with
    | nil => have := congrArg List.length hd; simp at this; omega
    | cons t rest =>
    rw [hd] at hc
    have hgl : GoodL (t :: rest) := by rw [← hd]; exact hT.good.dropN a
    have hrl : rest.length ≤ 10000 := by have := congrArg List.length hd; have := hT.len; simp at *; omega
    by_cases h5 : t.kind = 5
    · rw [prog_end h5] at hc ⊢
      refine ⟨[], [], by simp, by simpa using h1, by simpa using h2, by simp, by simp, fun S hS hne k hk => ?_⟩
      cases k with
      | zero => omega
      | succ k =>
        simp only [gprogF, if_neg hne, decide_eq_true_eq]
        have := (hT.at5 hd).1 h5
        rw [show (l.length : Int) - 1 = (a : Int) by omega]
        exact hS.mem hne
    by_cases hm : t.sg wMonitor
    · have hr := rest_ne hT ha hd hm
      have hl8 : ms.length < 8 := by
        rcases Nat.lt_or_ge ms.length 8 with h8 | h8
        · exact h8
        · exfalso
          rw [progF, if_pos ⟨rfl, h5⟩, if_pos (is_yes hm)] at hc
          have c1 : ((rd 0 0 (t :: rest)).room ms.length 8).take.mon.2.code = 0 := code_of (fun e => by rw [bad_prog e]) hc
          have c0 : ((rd 0 0 (t :: rest)).room ms.length 8).take.code = 0 := code_of (fun e => bad_mon e) c1
          exact room_badq (o := 0) (l := t :: rest) ⟨rfl, by rw [← hd]; exact hT.tl.dropN ha, hgl⟩ (by omega) c0
      rw [prog_mon hr hm f hl8] at hc ⊢
      have c1 : (rd 0 0 rest).mon.2.code = 0 := code_of (fun e => by rw [bad_prog e]) hc
      have hq : Gq (rd 0 0 rest) 0 0 rest := ⟨rfl, Tl.tail (by rw [← hd]; exact hT.tl.dropN ha) hr, hgl.tail⟩
      obtain ⟨w1, ts, l', e1, R1, _, g⟩ := hq.mon hrl c1
      have hsp := spec_mon (l := l) w1.w.g
      have hdb : l.drop (a + (ts.length + 1)) = l' := by rw [← List.drop_drop, hd, e1]; simp
      have hlt : a + (ts.length + 1) < l.length := by
        rcases Nat.lt_or_ge (a + (ts.length + 1)) l.length with h6 | h6
        · exact h6
        · rw [List.drop_eq_nil_of_le h6] at hdb
          exact absurd hdb.symm g.t.ne
      have hstep : ∀ S, AtP S a → S ≠ [] → AtP (monF l (rd 0 0 rest).mon.1 S) (a + (ts.length + 1)) ∧ monF l (rd 0 0 rest).mon.1 S ≠ [] := fun S hS hne => by
        have hj := (hsp S hS.ok ((a : Int) + (t :: ts).length)).2 ⟨a, hS.mem hne, t :: ts, ⟨l', by rw [hd, e1]; rfl⟩, R1 t (isS_sg.2 hm), rfl⟩
        have hn : monF l (rd 0 0 rest).mon.1 S ≠ [] := fun e => by rw [e] at hj; cases hj
        refine ⟨?_, hn⟩
        obtain ⟨t', rest', q1, q2, q3⟩ := mon_all hT w1.w hS ha hn
        rw [hd] at q1
        injection q1 with q0 q1
        subst q0; subst q1
        rcases q3 with q3 | ⟨m', b, q4, q5, q6, q7, q8⟩
        · rw [c1] at q3; cases q3
        · have : b = a + (ts.length + 1) := by
            have := q6 _ hj
            simp at this
            omega
          rw [← this]; exact q6
      have hrec := ih (ms ++ [(rd 0 0 rest).mon.1]) rs (a + (ts.length + 1)) hlt (by omega) (by simp; omega) h2 (by rw [hdb, ← g.e]; exact hc)
      rw [hdb, ← g.e] at hrec
      obtain ⟨ms', rs', p1, p2, p3, p4, p5, p6⟩ := hrec
      refine ⟨(rd 0 0 rest).mon.1 :: ms', rs', by rw [p1]; simp, by simp at p2 ⊢; omega, p3, fun m hm' => ?_, p5, fun S hS hne k hk => ?_⟩
      · rcases List.mem_cons.1 hm' with rfl | hm'
        · exact w1
        · exact p4 m hm'
      · cases k with
        | zero => simp at hk
        | succ k =>
          obtain ⟨s1, s2⟩ := hstep S hS hne
          have hfin := p6 _ s1 s2 k (by simp at hk; omega)
          have hw : ¬ wS l [109, 111, 110, 105, 116, 111, 114] S = [] := fun e => (wS_ne hS (hS.mem hne) hd _).1 e hm
          cases rs' with
          | nil => simp only [gprogF, if_neg hne, if_neg hw]; exact hfin
          | cons x rs'' => simp only [gprogF, if_neg hne, if_neg hw]; exact hfin
    by_cases hth : t.sg wThread
    · have hr := rest_ne hT ha hd hth
      have hl8 : rs.length < 8 := by
        rcases Nat.lt_or_ge rs.length 8 with h8 | h8
        · exact h8
        · exfalso
          rw [progF, if_pos ⟨rfl, h5⟩, if_neg (is_not hm), if_pos (is_yes hth)] at hc
          have c1 : ((rd 0 0 (t :: rest)).room rs.length 8).take.role.2.code = 0 := code_of (fun e => by rw [bad_prog e]) hc
          have c0 : ((rd 0 0 (t :: rest)).room rs.length 8).take.code = 0 := code_of (fun e => bad_role e) c1
          exact room_badq (o := 0) (l := t :: rest) ⟨rfl, by rw [← hd]; exact hT.tl.dropN ha, hgl⟩ (by omega) c0
      rw [prog_role hr hth f ms hl8] at hc ⊢
      have c1 : (rd 0 0 rest).role.2.code = 0 := code_of (fun e => by rw [bad_prog e]) hc
      have hq : Gq (rd 0 0 rest) 0 0 rest := ⟨rfl, Tl.tail (by rw [← hd]; exact hT.tl.dropN ha) hr, hgl.tail⟩
      obtain ⟨w1, ts, l', e1, R1, _, g⟩ := hq.role hrl c1
      have hsp := spec_role (l := l) w1.w.g
      have hdb : l.drop (a + (ts.length + 1)) = l' := by rw [← List.drop_drop, hd, e1]; simp
      have hlt : a + (ts.length + 1) < l.length := by
        rcases Nat.lt_or_ge (a + (ts.length + 1)) l.length with h6 | h6
        · exact h6
        · rw [List.drop_eq_nil_of_le h6] at hdb
          exact absurd hdb.symm g.t.ne
      have hstep : ∀ S, AtP S a → S ≠ [] → AtP (roleF l (rd 0 0 rest).role.1 S) (a + (ts.length + 1)) ∧ roleF l (rd 0 0 rest).role.1 S ≠ [] := fun S hS hne => by
        have hj := (hsp S hS.ok ((a : Int) + (t :: ts).length)).2 ⟨a, hS.mem hne, t :: ts, ⟨l', by rw [hd, e1]; rfl⟩, R1 t (isS_sg.2 hth), rfl⟩
        have hn : roleF l (rd 0 0 rest).role.1 S ≠ [] := fun e => by rw [e] at hj; cases hj
        refine ⟨?_, hn⟩
        obtain ⟨t', rest', q1, q2, q3⟩ := role_all hT w1.w hS ha hn
        rw [hd] at q1
        injection q1 with q0 q1
        subst q0; subst q1
        rcases q3 with q3 | ⟨m', b, q4, q5, q6, q7, q8⟩
        · rw [c1] at q3; cases q3
        · have : b = a + (ts.length + 1) := by
            have := q6 _ hj
            simp at this
            omega
          rw [← this]; exact q6
      have hrec := ih ms (rs ++ [(rd 0 0 rest).role.1]) (a + (ts.length + 1)) hlt (by omega) h1 (by simp; omega) (by rw [hdb, ← g.e]; exact hc)
      rw [hdb, ← g.e] at hrec
      obtain ⟨ms', rs', p1, p2, p3, p4, p5, p6⟩ := hrec
      refine ⟨ms', (rd 0 0 rest).role.1 :: rs', by rw [p1]; simp, p2, by simp at p3 ⊢; omega, p4, fun m hm' => ?_, fun S hS hne k hk => ?_⟩
      · rcases List.mem_cons.1 hm' with rfl | hm'
        · exact w1
        · exact p5 m hm'
      · cases k with
        | zero => simp at hk
        | succ k =>
          obtain ⟨s1, s2⟩ := hstep S hS hne
          have hfin := p6 _ s1 s2 k (by simp at hk; omega)
          have hw : ¬ wS l [116, 104, 114, 101, 97, 100] S = [] := fun e => (wS_ne hS (hS.mem hne) hd _).1 e hth
          have hwm := (wS_ne hS (hS.mem hne) hd [109, 111, 110, 105, 116, 111, 114]).2 hm
          cases ms' with
          | nil => simp only [gprogF, if_neg hne, if_neg hw]; exact hfin
          | cons x ms'' => simp only [gprogF, if_neg hne, if_pos hwm, if_neg hw]; exact hfin
    · exfalso
      rw [progF, if_pos ⟨rfl, h5⟩, if_neg (is_not hm), if_neg (is_not hth)] at hc
      have h40 : ((rd 0 0 (t :: rest)).fail 40).code = 40 := fail_code
      rw [bad_prog (by rw [h40]; decide), h40] at hc
      cases hc
end Go.Proofs.YtmflfcbebeikcaaGreat.Q

namespace Go.Proofs.YtmflfcbebeikcaaGreat.Q
open Go.RowKit
variable [Amb]
theorem ends_er (l : List Tk) (N : Nat) : ∀ e : Ex, e.pre.length ≤ N → endsE l e.er = endsE l e := by
  induction N with
  | zero => intro e h; have := e.pre_pos; omega
  | succ N ih =>
    intro e hN
    unfold endsE
    rw [bareE_eq, bareE_eq l e, Ex.er_eq]
    dsimp only
    rw [List.map_map]
    have : e.kids.map (endsE l ∘ Ex.er) = e.kids.map (endsE l) := List.map_congr_left fun y hy => ih y (by have := e.pre_kid hy; omega)
    rw [this]
theorem free_er (l : List Tk) (e : Ex) : freeF l e.er = freeF l e := by unfold freeF; rw [ends_er l _ e (Nat.le_refl _)]
theorem stB_er (l : List Tk) (kind : Int) (mon name : Str) (n : Int) (e : Ex) (bs : List PS) : stB l kind mon name n e.er bs = stB l kind mon name n e bs := by unfold stB; rw [free_er]
theorem stF_er (l : List Tk) (N : Nat) : ∀ y : St, y.cn ≤ N → stF l y.er = stF l y := by
  induction N with
  | zero => intro y h; have := y.cn_pos; omega
  | succ N ih =>
    intro y hN
    rw [stF_eq, stF_eq l y, St.er_eq]
    dsimp only
    rw [stB_er, List.map_map]
    have : y.blocks.map (bodyF l ∘ List.map St.er) = y.blocks.map (bodyF l) := List.map_congr_left fun b hb => by
      show bodyF l (b.map St.er) = bodyF l b
      unfold bodyF
      rw [List.map_map]
      have : b.map (stF l ∘ St.er) = b.map (stF l) := List.map_congr_left fun z hz => ih z (by have := y.cn_kid hb hz; omega)
      rw [this]
    rw [this]
theorem body_er (l : List Tk) (b : List St) : bodyF l (b.map St.er) = bodyF l b := by
  unfold bodyF
  rw [List.map_map]
  have : b.map (stF l ∘ St.er) = b.map (stF l) := List.map_congr_left fun z hz => stF_er l _ z (Nat.le_refl _)
  rw [this]
theorem mon_er (l : List Tk) (m : Mo) : monF l m.er = monF l m := by
  unfold monF Mo.er
  dsimp only
  rw [List.map_map, List.map_map]
  have e1 : m.methods.map (mtF l ∘ Mt.er) = m.methods.map (mtF l) := List.map_congr_left fun f hf => by
    show mtF l f.er = mtF l f
    unfold mtF Mt.er
    dsimp only
    rw [body_er]
  have e2 : m.vars.map (varF l ∘ Vr.er) = m.vars.map (varF l) := List.map_congr_left fun f hf => rfl
  rw [e1, e2]
theorem role_er (l : List Tk) (r : Ro) : roleF l r.er = roleF l r := by
  unfold roleF Ro.er
  dsimp only
  rw [body_er]
theorem gprog_er (l : List Tk) : ∀ (k : Nat) (ms : List Mo) (rs : List Ro) (S : List Int), gprogF l k (ms.map Mo.er) (rs.map Ro.er) S = gprogF l k ms rs S := by
  intro k
  induction k with
  | zero => intro ms rs S; rfl
  | succ k ih =>
    intro ms rs S
    cases ms with
    | nil =>
      cases rs with
      | nil => rfl
      | cons x rs =>
        have h1 := ih [] rs (roleF l x S)
        simp only [List.map_nil, List.map_cons, gprogF, role_er] at h1 ⊢
        rw [h1]
    | cons m ms =>
      cases rs with
      | nil =>
        have h1 := ih ms [] (monF l m S)
        simp only [List.map_nil, List.map_cons, gprogF, mon_er] at h1 ⊢
        rw [h1]
      | cons x rs =>
        have h1 := ih ms (x :: rs) (monF l m S)
        have h2 := ih (m :: ms) rs (roleF l x S)
        simp only [List.map_cons, gprogF, mon_er, role_er] at h1 h2 ⊢
        rw [h1, h2]
/-! ### the shape -/
theorem pre_er (N : Nat) : ∀ e : Ex, e.pre.length ≤ N → e.er.pre = e.pre.map Ex.er := by
  induction N with
  | zero => intro e h; have := e.pre_pos; omega
  | succ N ih =>
    intro e hN
    rw [e.er.pre_eq, e.pre_eq, Ex.pres_map, Ex.pres_map, List.map_cons, List.map_flatMap]
    congr 1
    have : e.er.kids = e.kids.map Ex.er := by rw [Ex.er_eq]
    rw [this, List.flatMap_map]
    rw [List.flatMap_def, List.flatMap_def]
    congr 1
    exact List.map_congr_left fun y hy => ih y (by have := e.pre_kid hy; omega)
theorem isPart_er (e : Ex) : isPartS e.er = isPartS e := by
  unfold isPartS
  rw [Ex.er_eq]
  dsimp only
  rw [List.length_map]
theorem check_er (e : Ex) : checkS e.er = checkS e := by
  unfold checkS
  rw [pre_er _ e (Nat.le_refl _), List.all_map]
  have : (isPartS ∘ Ex.er) = isPartS := funext isPart_er
  rw [this]
theorem isNone_er (e : Ex) : isNoneS e.er = isNoneS e := by
  unfold isNoneS
  rw [Ex.er_eq]
  dsimp only
  rw [List.length_map]
theorem head_er (kind : Int) (mon name : Str) (n : Int) (e : Ex) (len : Nat) : headOk kind mon name n e.er len = headOk kind mon name n e len := by
  unfold headOk
  rw [check_er, isNone_er]
theorem all_congr {α : Type} {p q : α → Bool} : ∀ {l : List α}, (∀ x ∈ l, p x = q x) → l.all p = l.all q
  | [], _ => rfl
  | a :: r, h => by rw [List.all_cons, List.all_cons, h a List.mem_cons_self, all_congr fun x hx => h x (List.mem_cons_of_mem _ hx)]
theorem st_ok_er (N : Nat) : ∀ y : St, y.cn ≤ N → y.er.ok = y.ok := by
  induction N with
  | zero => intro y h; have := y.cn_pos; omega
  | succ N ih =>
    intro y hN
    have e : ∀ z : St, z.ok = (headOk z.kind z.mon z.name z.n z.e z.blocks.length && z.blocks.all St.okL) := fun z => by cases z; rw [St.ok, St.okB_all]
    rw [e, e y, St.er_eq]
    dsimp only
    rw [head_er, List.length_map, List.all_map]
    congr 1
    refine all_congr fun b hb => ?_
    show St.okL (b.map St.er) = St.okL b
    rw [St.okL_all, St.okL_all, List.all_map]
    exact all_congr fun z hz => ih z (by have := y.cn_kid hb hz; omega)
theorem okL_er (b : List St) : St.okL (b.map St.er) = St.okL b := by
  rw [St.okL_all, St.okL_all, List.all_map]
  exact all_congr fun z hz => st_ok_er _ z (Nat.le_refl _)
theorem mo_ok_er (m : Mo) : m.er.ok = m.ok := by
  unfold Mo.ok Mo.er
  dsimp only
  rw [List.length_map, List.length_map, List.all_map, List.all_map]
  have e1 : m.vars.all (Vr.ok ∘ Vr.er) = m.vars.all Vr.ok := all_congr fun v hv => rfl
  have e2 : m.methods.all (Mt.ok ∘ Mt.er) = m.methods.all Mt.ok := all_congr fun f hf => by
    show f.er.ok = f.ok
    unfold Mt.ok Mt.er
    dsimp only
    rw [okL_er]
  rw [e1, e2]
theorem ro_ok_er (r : Ro) : r.er.ok = r.ok := by
  unfold Ro.ok Ro.er
  dsimp only
  rw [okL_er]
theorem checkP_er (p : Pg) : checkP p.er = checkP p := by
  unfold checkP Pg.ok Pg.er
  dsimp only
  rw [List.length_map, List.length_map, List.all_map, List.all_map]
  have e1 : p.mons.all (Mo.ok ∘ Mo.er) = p.mons.all Mo.ok := all_congr fun m _ => mo_ok_er m
  have e2 : p.roles.all (Ro.ok ∘ Ro.er) = p.roles.all Ro.ok := all_congr fun m _ => ro_ok_er m
  rw [e1, e2]
theorem derives_er (l : List Tk) (p : Pg) : derivesPS l p.er = derivesPS l p := by
  unfold derivesPS derivesS
  rw [checkP_er]
  unfold Pg.er
  dsimp only
  rw [List.length_map, List.length_map, gprog_er]
/-! ### the tokens of a text -/
theorem tok_no5 {k v : Int} {x : Str} (h : isTok k x v) : k ≠ 5 := by
  obtain ⟨hx, h⟩ := h
  rintro rfl
  unfold stepT at h
  split at h
  · exact absurd (congrArg (fun q => q.2.2) h) (by simp)
  split at h
  · exact absurd (congrArg (fun q => q.2.2) h) (by simp)
  split at h
  · split at h
    · exact absurd (congrArg (fun q => q.2.2) h) (by simp)
    · split at h
      · exact absurd (congrArg (fun q => q.2.2) h) (by simp)
      · exact absurd (congrArg (fun q => q.2.2) h) (by simp)
  split at h
  · split at h
    · exact absurd (congrArg (fun q => q.2.2) h) (by simp)
    · split at h
      · exact absurd (congrArg (fun q => q.2.2) h) (by simp)
      · exact absurd (congrArg (fun q => q.2.2) h) (by simp)
  split at h
  · split at h
    · exact absurd (congrArg (fun q => q.2.2) h) (by simp)
    · split at h
      · exact absurd (congrArg (fun q => q.2.2) h) (by simp)
      · exact absurd (congrArg (fun q => q.2.2) h) (by simp)
  · exact absurd (congrArg (fun q => q.2.2) h) (by simp)
theorem Lx.no5 {w : Str} {a : Nat} {ts : List Tk} (h : Lx w a ts) : ∀ t ∈ ts, t.kind ≠ 5 := by
  induction h with
  | nil a => intro t ht; simp at ht
  | skip hw h g ih => exact ih
  | tok hw h g ih =>
    intro t ht
    rcases List.mem_cons.1 ht with rfl | ht
    · exact tok_no5 (tok_self hw h).1
    · exact ih t ht
theorem scan_tkL {s : Str} (h : (scanS s).2.1 = 0) (hl : (scanS s).1.length ≤ 10000) : TkL (scanS s).1 := by
  have hok := scanS_ok h
  refine ⟨⟨hok.last, hok.len⟩, scan_good h, scan_kw h, fun k t e x hx => ?_, hl⟩
  obtain ⟨_, ts, h1, h2⟩ := scanS_Lx h
  rw [h2] at e
  obtain ⟨e, _⟩ := List.append_inj' e rfl
  subst e
  exact h1.no5 x hx
/-! ### the law -/
theorem RVq.fit {v : Vr} (h : RVq v) : v.name.length < 1073741824 := by have := h.name; omega
theorem pgF_of {p : Pg} (hm : ∀ m ∈ p.mons, RMoq m) (hr : ∀ x ∈ p.roles, RRoq x) : PgF p :=
  ⟨fun m hm' => by
    have g := hm m hm'
    exact ⟨by have := name_len g.name; omega, by have := g.vlen; omega, by have := g.mlen; omega, fun v hv => (g.vars v hv).fit, fun f hf => ⟨by have := name_len (g.meths f hf).name; omega, (g.meths f hf).body.bf⟩⟩,
  fun r hr' => by
    have g := hr r hr'
    exact ⟨by have := name_len g.name; omega, g.body.bf⟩⟩
theorem checkP_of {ms : List Mo} {rs : List Ro} (h1 : ms.length ≤ 8) (h2 : rs.length ≤ 8) (hm : ∀ m ∈ ms, RMoq m) (hr : ∀ x ∈ rs, RRoq x) : checkP ⟨ms, rs⟩ = 0 := by
  unfold checkP
  have : Pg.ok ⟨ms, rs⟩ = true := by
    unfold Pg.ok
    simp only [Bool.and_eq_true, decide_eq_true_eq, List.all_eq_true]
    refine ⟨⟨⟨h1, h2⟩, fun m hm' => ?_⟩, fun r hr' => ?_⟩
    · have g := hm m hm'
      unfold Mo.ok
      simp only [Bool.and_eq_true, decide_eq_true_eq, List.all_eq_true]
      refine ⟨⟨⟨⟨g.name, g.vlen⟩, g.mlen⟩, fun v hv => (g.vars v hv).ok⟩, fun f hf => ?_⟩
      unfold Mt.ok
      rw [(g.meths f hf).name, (g.meths f hf).body.okL]; rfl
    · have g := hr r hr'
      unfold Ro.ok
      rw [g.name, decide_eq_true g.count, g.body.okL]
      cases hs : r.star with
      | false => rfl
      | true => rw [g.star hs]; rfl
  rw [this]; rfl
theorem Tl.pos {l : List Tk} (h : Tl l) : 0 < l.length := by
  obtain ⟨k, t, e, _⟩ := h.last
  rw [e]; simp
/-- What is parsed is derived. -/
theorem law_parsed {s : Str} (h : (scanS s).2.1 = 0) (hl : (scanS s).1.length ≤ 10000) (hc : (parseS s).2.1 = 0) : PgF (parseS s).1 ∧ derivesPS (scanS s).1 (parseS s).1 = true := by
  have hT := scan_tkL h hl
  unfold parseS at hc ⊢
  rw [if_pos h] at hc ⊢
  by_cases h2 : (Rd.mk 0 0 (scanS s).1 0).prog.2.code = 0
  · rw [if_pos h2]
    dsimp only
    have h2' := h2
    have hm : (rd 0 0 (scanS s).1).m = (scanS s).1.length := rfl
    unfold Rd.prog at h2 ⊢
    obtain ⟨ms', rs', p1, p2, p3, p4, p5, p6⟩ := parse_der hT ((rd 0 0 (scanS s).1).m + 1) [] [] 0 hT.tl.pos (by rw [hm]; omega) (by decide) (by decide) (by rw [List.drop_zero]; exact h2)
    rw [List.drop_zero] at p1
    rw [p1]
    dsimp only
    simp only [List.nil_append, List.length_nil, Nat.zero_add] at p2 p3 ⊢
    refine ⟨pgF_of p4 p5, ?_⟩
    unfold derivesPS derivesS
    rw [hT.ended, checkP_of p2 p3 p4 p5, p6 [0] (fun x hx => by simp at hx; omega) (by simp) _ (by show _ < _ + _ + 1; dsimp only; omega)]
    rfl
  · rw [if_neg h2] at hc
    exact absurd hc h2
/-- What is derived is parsed, or too deep. -/
theorem law_derived {s : Str} (h : (scanS s).2.1 = 0) (hl : (scanS s).1.length ≤ 10000) {p : Pg} (hp : PgF p) (hr : PgR p) (hd : derivesPS (scanS s).1 p = true) : ((parseS s).2.1 = 0 ∧ p.same (parseS s).1 = true) ∨ (parseS s).2.1 = 41 := by
  have hT := scan_tkL h hl
  unfold derivesPS at hd
  simp only [Bool.and_eq_true, beq_iff_eq] at hd
  obtain ⟨⟨_, hc⟩, hg⟩ := hd
  have hW := pgW_of hp hc hr
  have hm : (rd 0 0 (scanS s).1).m = (scanS s).1.length := rfl
  have key := der_parse hT _ p.mons p.roles [0] ((rd 0 0 (scanS s).1).m + 1) [] [] 0 hT.tl.pos (by rw [hm]; omega) (by simpa using hW.ml) (by simpa using hW.rl) hW.mons hW.roles (fun x hx => by simp at hx; omega) hg
  rw [List.drop_zero] at key
  unfold parseS
  rw [if_pos h]
  have hprog : (Rd.mk 0 0 (scanS s).1 0).prog = progF ((rd 0 0 (scanS s).1).m + 1) [] [] (rd 0 0 (scanS s).1) := rfl
  rw [hprog]
  rcases key with hb | ⟨ms2, rs2, q1, q2, q3, q4⟩
  · rw [if_neg (bad41 hb)]
    exact .inr hb
  · rw [if_pos q2, q1]
    refine .inl ⟨rfl, (Pg.same_er _ _).2 ?_⟩
    unfold Pg.er
    dsimp only
    rw [List.nil_append, List.nil_append, q3, q4]
/-- What is not derived is not what is parsed. -/
theorem law_not {s : Str} (h : (scanS s).2.1 = 0) (hl : (scanS s).1.length ≤ 10000) {p : Pg} (hd : derivesPS (scanS s).1 p = false) (hc : (parseS s).2.1 = 0) : p.same (parseS s).1 = false := by
  cases hs : p.same (parseS s).1 with
  | false => rfl
  | true =>
    have he := (Pg.same_er _ _).1 hs
    have h2 := (law_parsed h hl hc).2
    rw [← derives_er, ← he, derives_er, hd] at h2
    cases h2
end Go.Proofs.YtmflfcbebeikcaaGreat.Q

namespace Go.Proofs.YtmflfcbebeikcaaGreat.Q
open Go.RowKit
variable [Amb]
theorem small05_c (l : List Tk) : PCalls Tryz.prog 7 [.d (.sl (l.map Tk.c))] [] (fun r h' => ∃ b, r = .d (.bool b) ∧ h' = [] ∧ (b = true → l.length ≤ 300)) := by
  refine fn_sem pok 24 0 Tryz.func7 (by kernel_rfl) rfl rfl rfl rfl ?_
  refine SWp.go pok (by kernel_rfl) ?_
  refine SWp.loop (fun k : Nat => k ≤ 301) (fun k => ([(0, .d (.sl (l.map Tk.c))), (3, iv k)], [])) (fun k => 301 - k) 0 (by decide) (Le.same ⟨rfl, rfl, trivial⟩) (fun k hk => ?_)
  refine SWp.go pok (by kernel_rfl) ?_
  have fin : ∀ b : Bool, b = decide (((l.map Tk.c).length : Int) ≤ 300) → ∃ b', V.d (.bool b) = .d (.bool b') ∧ ([] : List Ob) = [] ∧ (b' = true → l.length ≤ 300) := fun b hb => ⟨b, rfl, rfl, fun h => by
    rw [hb] at h
    simp at h
    omega⟩
  refine brP_split (fun h => ?_) (fun h => ?_)
  · have hlt : k < l.length := by simpa using h
    refine brP_split (fun h2 => ?_) (fun h2 => ?_)
    · have h2 : k ≤ 300 := by simp at h2; omega
      refine PIdx.map (get_at hlt) ?_
      refine brP_split (fun h3 => ?_) (fun h3 => ?_)
      · exact ⟨false, rfl, rfl, fun h => by cases h⟩
      · exact ⟨k + 1, by omega, by omega, Le.same ⟨rfl, sint (wrap_nat k (by omega)), trivial⟩⟩
    · refine brP_split (fun h3 => ?_) (fun h3 => ?_)
      · exact fin true h3.symm
      · exact fin false h3.symm
  · refine brP_split (fun h3 => ?_) (fun h3 => ?_)
    · exact fin true h3.symm
    · exact fin false h3.symm
theorem num05_c (n : Int) : PFun Tryz.prog 9 [iv n] [] (iv n) [] := by
  refine fn_sem pok 4 0 Tryz.func9 (by kernel_rfl) rfl rfl rfl rfl ?_
  refine SWp.go pok (by kernel_rfl) ?_
  exact fin1 rfl
/-! ### bounds -/
theorem fits_Fit (N : Nat) : ∀ (e : Ex), e.pre.length ≤ N → (∀ y ∈ e.pre, y.kids.length < 1073741824) → e.Fit := by
  induction N with
  | zero => intro e h; have := e.pre_pos; omega
  | succ N ih =>
    intro e hN hk
    have h0 := hk e (by rw [e.pre_eq]; simp)
    have hs : ∀ y ∈ e.kids, y.Fit := fun y hy => ih y (by have := e.pre_kid hy; omega) fun z hz => hk z (by
      rw [e.pre_eq, Ex.pres_map]
      exact List.mem_cons_of_mem _ (List.mem_flatMap.2 ⟨y, hy, hz⟩))
    cases e with
    | mk op mon name n kids pl => exact .mk (by show kids.length < 1099511627776; exact Nat.lt_trans h0 (by decide)) hs
theorem SF.fit {y : St} (h : SF y) : y.Fit := by
  induction h with
  | @mk kind mon name n e blocks pl hm hn he hb hl k ih => exact .mk (fits_Fit _ e (Nat.le_refl _) fun y hy => (he.2 y hy).1) (by show blocks.length < 1099511627776; omega) (fun b hb' => by have := hl b hb'; show b.length < 1099511627776; omega) ih
theorem BF.bd {b : List St} (h : BF b) : Bd b := ⟨by have := h.len; show b.length < 1099511627776; omega, fun y hy => (h.fit y hy).fit⟩
theorem PgF.fit {p : Pg} (h : PgF p) (h1 : p.mons.length ≤ 20) (h2 : p.roles.length ≤ 20) : p.Fit :=
  ⟨by show p.mons.length < 1099511627776; omega, by show p.roles.length < 1099511627776; omega, fun m hm => by have := (h.mons m hm).vlen; show m.vars.length < 1099511627776; omega, fun m hm => by have := (h.mons m hm).mlen; show m.methods.length < 1099511627776; omega, fun m hm f hf => ((h.mons m hm).meths f hf).body.bd, fun r hr => (h.roles r hr).body.bd⟩
theorem SmE.fits {e : Ex} (h : SmE e) : e.fits := ⟨by have := h.1; omega, fun y hy => by have := h.2 y hy; exact ⟨by omega, by omega, by omega⟩⟩
theorem SmS.f {y : St} (h : SmS y) : SF y := by
  induction h with
  | mk hm hn he hb hl k ih => exact .mk (by omega) (by omega) he.fits (by omega) (fun b hb' => by have := hl b hb'; omega) ih
theorem SmL.bf {b : List St} (h : SmL b) : BF b := ⟨by have := h.len; omega, fun y hy => (h.all y hy).f⟩
theorem SmP.f {p : Pg} (h : SmP p) : PgF p :=
  ⟨fun m hm => by
    have g := h.mons m hm
    exact ⟨by have := g.name; omega, by have := g.vlen; omega, by have := g.mlen; omega, fun v hv => by have := g.vars v hv; omega, fun f hf => ⟨by have := (g.meths f hf).1; omega, (g.meths f hf).2.bf⟩⟩,
  fun r hr => by
    have g := h.roles r hr
    exact ⟨by have := g.1; omega, g.2.bf⟩⟩
theorem derives_lens {l : List Tk} {p : Pg} (h : derivesPS l p = true) : p.mons.length ≤ 8 ∧ p.roles.length ≤ 8 := by
  unfold derivesPS at h
  simp only [Bool.and_eq_true, beq_iff_eq] at h
  have hc := h.1.2
  unfold checkP at hc
  split at hc
  · rename_i hok
    unfold Pg.ok at hok
    simp only [Bool.and_eq_true, decide_eq_true_eq] at hok
    exact ⟨hok.1.1.1, hok.1.1.2⟩
  · cases hc
theorem PgNum.r {p : Pg} (h : PgNum p) : PgR p := fun m hm v hv => (h.1 m hm).1 v hv
theorem gramParse_t (hM : @Amb.memo _ = gramMemo) (s : Str) (p : Pg) (hN : PgNum p) : PFun Tryz.prog 3 [sv' s, p.v] [] (.d (.bool true)) [] := by
  refine fn_sem pok 80 0 Tryz.func3 (by kernel_rfl) rfl rfl rfl rfl ?_
  refine SWp.go pok (by kernel_rfl) ?_
  refine brP_split (fun h => ?_) (fun h => ?_)
  · exact PFun.call (live05_c hM) (fin1 rfl)
  have hs : s.length ≤ 2000 := by simp at h; omega
  refine PCalls.mono (small02_c p 300 (by decide) (by decide)) ?_
  rintro r h' ⟨b, rfl, rfl, hb⟩
  refine brP_split (fun h => ?_) (fun h => ?_)
  · exact PFun.call (live05_c hM) (fin1 rfl)
  have hsm : SmP p := hb (by simpa using h)
  refine PFun.call (refScan_c s (by omega)) ?_
  refine brP_split (fun h => ?_) (fun h => ?_)
  · exact PFun.call (live05_c hM) (fin1 rfl)
  have hsc : (scanS s).2.1 = 0 := by simpa using h
  refine PCalls.mono (small05_c (scanS s).1) ?_
  rintro r h' ⟨b, rfl, rfl, hb⟩
  refine brP_split (fun h => ?_) (fun h => ?_)
  · exact PFun.call (live05_c hM) (fin1 rfl)
  have hl : (scanS s).1.length ≤ 300 := hb (by simpa using h)
  refine PFun.call (parse_c s (by omega)) ?_
  refine PFun.call (num05_c _) ?_
  have hl2 : (scanS s).1.length < 1073741824 := by omega
  have hpF := hsm.f
  have cp := derives_c hM hl2 hpF
  have lp0 := law_derived (s := s) hsc (by omega) hpF hN.r
  have ln0 := law_not (s := s) hsc (by omega) (p := p)
  have lq0 := law_parsed (s := s) hsc (by omega)
  have end0 : ∀ {b : Bool}, b = true → True := fun _ => trivial
  by_cases hc : (parseS s).2.1 = 0
  · obtain ⟨hqF, hqd⟩ := lq0 hc
    have cq := derives_c hM hl2 hqF
    rw [hqd] at cq
    have hlens := derives_lens hqd
    have csame := same_c p (parseS s).1 (hpF.fit hsm.mlen hsm.rlen) (hqF.fit (by omega) (by omega))
    refine brP_true (by simpa using hc) ?_
    refine PFun.call cq ?_
    cases hd : derivesPS (scanS s).1 p with
    | true =>
      rw [hd] at cp
      refine PFun.call cp ?_
      rcases lp0 hd with ⟨_, hsame⟩ | h41
      · rw [hsame] at csame
        refine PFun.call (num05_c _) ?_
        refine brP_true (by simpa using hc) ?_
        refine PFun.call csame ?_
        refine PFun.call (live05_c hM) ?_
        exact ⟨rfl, rfl⟩
      · rw [hc] at h41; cases h41
    | false =>
      rw [hd] at cp
      have hsame := ln0 hd hc
      rw [hsame] at csame
      refine PFun.call cp ?_
      refine PFun.call (num05_c _) ?_
      refine brP_split (fun h => ?_) (fun h => ?_)
      · exact absurd hc (by simpa using h)
      refine PFun.call csame ?_
      refine PFun.call (live05_c hM) ?_
      exact ⟨rfl, rfl⟩
  · refine brP_false (by simpa using hc) ?_
    cases hd : derivesPS (scanS s).1 p with
    | true =>
      rw [hd] at cp
      refine PFun.call cp ?_
      rcases lp0 hd with ⟨h0, _⟩ | h41
      · exact absurd h0 hc
      · refine PFun.call (num05_c _) ?_
        refine brP_false (by simpa using hc) ?_
        refine PFun.call (num05_c _) ?_
        refine brP_true (by simpa using h41) ?_
        refine PFun.call (live05_c hM) ?_
        exact ⟨rfl, rfl⟩
    | false =>
      rw [hd] at cp
      refine PFun.call cp ?_
      refine PFun.call (num05_c _) ?_
      refine brP_true (by simpa using hc) ?_
      refine PFun.call (live05_c hM) ?_
      exact ⟨rfl, rfl⟩
end Go.Proofs.YtmflfcbebeikcaaGreat.Q
