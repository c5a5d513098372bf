/- Sums of variables: sums of two, both ways. No condition. -/
import Derived.Test.YtlafnhpmhflnaaaQzd
set_option linter.unusedVariables false
set_option linter.unusedSectionVars false
set_option linter.unnecessarySimpa false
set_option linter.unusedSimpArgs false
set_option maxRecDepth 100000
set_option maxHeartbeats 4000000
namespace Go.Proofs.Ytlafnhpmhflnaaa.Q
open Go.RowKit
variable [Amb]
theorem con_yes {t : Tm} {acc : List Tm} {l : Option (List Tm)} (h : ¬ t.c = 0) : (l.map (con t)).map (acc ++ ·) = l.map (acc ++ [t] ++ ·) := by
  cases l with
  | none => rfl
  | some r => simp [con, h]
theorem con_no {t : Tm} {acc : List Tm} {l : Option (List Tm)} (h : t.c = 0) : (l.map (con t)).map (acc ++ ·) = l.map (acc ++ ·) := by
  cases l with
  | none => rfl
  | some r => simp [con, h]
theorem lb_no {p : Ln × Bool} (h : p = noLn) : V.tup [.agg [iv 0, .d (.sl [])], .d (.bool false)] = lb p := by rw [h]; rfl
theorem linAdd_c (x y : Ln) (hx : x.ok) (hy : y.ok) : PFun Try.prog 22 [x.v, y.v] [] (lb (addL x y)) [] := by
  refine fn_sem pok 126 0 Try.func22 (by kernel_rfl) rfl rfl rfl rfl ?_
  refine SWp.go pok (by kernel_rfl) ?_
  refine SWp.scope0 ?_
  refine SWp.go pok (by kernel_rfl) ?_
  refine PFun.call (linIs_c x) ?_
  refine brP_split (fun h => ?_) (fun h => ?_)
  · exact fin1 (lb_no (add_no1 (by simpa using h)))
  have h1 : isB x.l = true := by simpa using h
  have l1 := isB_len h1
  refine PFun.call (linIs_c y) ?_
  refine brP_split (fun h => ?_) (fun h => ?_)
  · exact fin1 (lb_no (add_no2 (by simpa using h)))
  have h2 : isB y.l = true := by simpa using h
  have l2 := isB_len h2
  refine PFun.call (numAdd_c x.k y.k hx.1 hy.1) ?_
  refine brP_split (fun h => ?_) (fun h => ?_)
  · exact fin1 (lb_no (add_no3 (by simpa using h)))
  have h3 : (addS x.k y.k).2 = true := by simpa using h
  refine SWp.tipBox 2 1 2 rfl rfl ?_
  refine SWp.loop (fun p : List Tm × List Tm × List (List D) => ∃ acc : List Tm, p.2.2 = acc.map Tm.e ∧ (∀ t ∈ p.1, t.ok) ∧ (∀ t ∈ p.2.1, t.ok) ∧ acc.length + p.1.length + p.2.1.length ≤ 80 ∧ (addT p.1 p.2.1).map (acc ++ ·) = addT x.l y.l)
    (fun p => ([(4, .ptr 0 0), (6, .d (.sl (p.1.map Tm.e))), (7, .d (.sl (p.2.1.map Tm.e)))], [.box [iv (addS x.k y.k).1, .gsl p.2.2 1], .tip 2 p.2.2.length]))
    (fun p => p.1.length + p.2.1.length) (x.l, y.l, []) ⟨[], rfl, hx.2, hy.2, by show 0 + x.l.length + y.l.length ≤ 80; omega, by show (addT x.l y.l).map _ = _; cases addT x.l y.l <;> simp⟩ (.inr ⟨[2, 3], ⟨rfl, rfl⟩, rfl, rfl, rfl, rfl, trivial⟩) (fun p hp => ?_)
  obtain ⟨xs, ys, rows⟩ := p
  obtain ⟨acc, hr, ox, oy, hlen, hs⟩ := hp
  simp only at hr ox oy hlen hs
  subst hr
  refine SWp.go pok (by kernel_rfl) ?_
  match xs, ys with
  | [], [] =>
    have e0 : addT x.l y.l = some acc := by rw [← hs]; simp [addT]
    refine brP_split (fun h => ?_) (fun h => ?_)
    · exact fin1 (lb_no (add_no4 h1 h2 h3 e0 (by simp at h; omega)))
    · exact fin1 (by rw [add_yes h1 h2 h3 e0 (by simp at h; omega)]; rfl)
  | t :: xs, [] =>
    refine PIdx.map' (i := 0) rfl (x := t) rfl ?_
    refine ⟨⟨by decide, by simp; omega⟩, RL_map (t :: xs), ?_⟩
    refine brP_split (fun h9 => ?_) (fun h9 => ?_)
    · have h9' : ¬ t.c = 0 := by simpa using h9
      refine ⟨⟨rfl, RL_map acc, RL_one rfl, by simp; simp at hlen; omega⟩, ?_⟩
      refine ⟨(xs, ([] : List Tm), acc.map Tm.e ++ [Tm.e t]), ⟨acc ++ [t], by simp, fun q hq => ox q (by simp [hq]), oy, by simp at hlen ⊢; omega, ?_⟩, by show xs.length + 0 < xs.length + 1 + 0; omega, .inr ⟨[0, 1], ⟨rfl, rfl⟩, rfl, rfl, rfl, rfl, trivial⟩⟩
      rw [← hs, addT_xn, con_yes (t := t) h9']
    · have h9' : t.c = 0 := by simpa using h9
      refine ⟨(xs, ([] : List Tm), acc.map Tm.e), ⟨acc, rfl, fun q hq => ox q (by simp [hq]), oy, by simp at hlen ⊢; omega, ?_⟩, by show xs.length + 0 < xs.length + 1 + 0; omega, .inr ⟨[0, 1], ⟨rfl, rfl⟩, rfl, rfl, rfl, rfl, trivial⟩⟩
      rw [← hs, addT_xn, con_no (t := t) h9']
  | [], u :: ys =>
    refine PIdx.map' (i := 0) rfl (x := u) rfl ?_
    refine ⟨⟨by decide, by simp; omega⟩, RL_map (u :: ys), ?_⟩
    refine brP_split (fun h9 => ?_) (fun h9 => ?_)
    · have h9' : ¬ u.c = 0 := by simpa using h9
      refine ⟨⟨rfl, RL_map acc, RL_one rfl, by simp; simp at hlen; omega⟩, ?_⟩
      refine ⟨(([] : List Tm), ys, acc.map Tm.e ++ [Tm.e u]), ⟨acc ++ [u], by simp, ox, fun q hq => oy q (by simp [hq]), by simp at hlen ⊢; omega, ?_⟩, by show 0 + ys.length < 0 + (ys.length + 1); omega, .inr ⟨[0, 1], ⟨rfl, rfl⟩, rfl, rfl, rfl, rfl, trivial⟩⟩
      rw [← hs, addT_ny, con_yes (t := u) h9']
    · have h9' : u.c = 0 := by simpa using h9
      refine ⟨(([] : List Tm), ys, acc.map Tm.e), ⟨acc, rfl, ox, fun q hq => oy q (by simp [hq]), by simp at hlen ⊢; omega, ?_⟩, by show 0 + ys.length < 0 + (ys.length + 1); omega, .inr ⟨[0, 1], ⟨rfl, rfl⟩, rfl, rfl, rfl, rfl, trivial⟩⟩
      rw [← hs, addT_ny, con_no (t := u) h9']
  | t :: xs, u :: ys =>
    refine brP_true (by simp) ?_
    refine PIdx.map' (i := 0) rfl (x := t) rfl ?_
    refine PIdx.map' (i := 0) rfl (x := u) rfl ?_
    refine brP_split (fun h4 => ?_) (fun h4 => ?_)
    · have h4' : t.var < u.var := by simpa using h4
      refine PIdx.map' (i := 0) rfl (x := t) rfl ?_
      refine ⟨⟨by decide, by simp; omega⟩, RL_map (t :: xs), ?_⟩
      refine brP_split (fun h9 => ?_) (fun h9 => ?_)
      · have h9' : ¬ t.c = 0 := by simpa using h9
        refine ⟨⟨rfl, RL_map acc, RL_one rfl, by simp; simp at hlen; omega⟩, ?_⟩
        refine ⟨(xs, u :: ys, acc.map Tm.e ++ [Tm.e t]), ⟨acc ++ [t], by simp, fun q hq => ox q (by simp [hq]), oy, by simp at hlen ⊢; omega, ?_⟩, by show xs.length + (ys.length + 1) < xs.length + 1 + (ys.length + 1); omega, .inr ⟨[0, 1], ⟨rfl, rfl⟩, rfl, rfl, rfl, rfl, trivial⟩⟩
        rw [← hs, addT_lt _ _ h4', con_yes (t := t) h9']
      · have h9' : t.c = 0 := by simpa using h9
        refine ⟨(xs, u :: ys, acc.map Tm.e), ⟨acc, rfl, fun q hq => ox q (by simp [hq]), oy, by simp at hlen ⊢; omega, ?_⟩, by show xs.length + (ys.length + 1) < xs.length + 1 + (ys.length + 1); omega, .inr ⟨[0, 1], ⟨rfl, rfl⟩, rfl, rfl, rfl, rfl, trivial⟩⟩
        rw [← hs, addT_lt _ _ h4', con_no (t := t) h9']
    · have h4' : ¬ t.var < u.var := by simpa using h4
      refine PIdx.map' (i := 0) rfl (x := u) rfl ?_
      refine PIdx.map' (i := 0) rfl (x := t) rfl ?_
      refine brP_split (fun h5 => ?_) (fun h5 => ?_)
      · have h5' : u.var < t.var := by simpa using h5
        refine PIdx.map' (i := 0) rfl (x := u) rfl ?_
        refine ⟨⟨by decide, by simp; omega⟩, RL_map (u :: ys), ?_⟩
        refine brP_split (fun h9 => ?_) (fun h9 => ?_)
        · have h9' : ¬ u.c = 0 := by simpa using h9
          refine ⟨⟨rfl, RL_map acc, RL_one rfl, by simp; simp at hlen; omega⟩, ?_⟩
          refine ⟨(t :: xs, ys, acc.map Tm.e ++ [Tm.e u]), ⟨acc ++ [u], by simp, ox, fun q hq => oy q (by simp [hq]), by simp at hlen ⊢; omega, ?_⟩, by show xs.length + 1 + ys.length < xs.length + 1 + (ys.length + 1); omega, .inr ⟨[0, 1], ⟨rfl, rfl⟩, rfl, rfl, rfl, rfl, trivial⟩⟩
          rw [← hs, addT_gt _ _ h5', con_yes (t := u) h9']
        · have h9' : u.c = 0 := by simpa using h9
          refine ⟨(t :: xs, ys, acc.map Tm.e), ⟨acc, rfl, ox, fun q hq => oy q (by simp [hq]), by simp at hlen ⊢; omega, ?_⟩, by show xs.length + 1 + ys.length < xs.length + 1 + (ys.length + 1); omega, .inr ⟨[0, 1], ⟨rfl, rfl⟩, rfl, rfl, rfl, rfl, trivial⟩⟩
          rw [← hs, addT_gt _ _ h5', con_no (t := u) h9']
      · have h5' : ¬ u.var < t.var := by simpa using h5
        refine PIdx.map' (i := 0) rfl (x := t) rfl ?_
        refine PIdx.map' (i := 0) rfl (x := t) rfl ?_
        refine PIdx.map' (i := 0) rfl (x := u) rfl ?_
        refine ⟨_, _, numAdd_c t.c u.c (ox t (by simp)).2 (oy u (by simp)).2, ?_⟩
        refine brP_split (fun h6 => ?_) (fun h6 => ?_)
        · exact fin1 (lb_no (add_none (by rw [← hs, addT_no _ _ h4' h5' (by simpa using h6)]; rfl)))
        have h6' : (addS t.c u.c).2 = true := by simpa using h6
        refine ⟨⟨by decide, by simp; omega⟩, RL_map (t :: xs), ?_⟩
        refine ⟨⟨by decide, by simp; omega⟩, RL_map (u :: ys), ?_⟩
        refine brP_split (fun h9 => ?_) (fun h9 => ?_)
        · have h9' : ¬ (addS t.c u.c).1 = 0 := by simpa using h9
          refine ⟨⟨rfl, RL_map acc, RL_one rfl, by simp; simp at hlen; omega⟩, ?_⟩
          refine ⟨(xs, ys, acc.map Tm.e ++ [Tm.e (⟨t.var, (addS t.c u.c).1⟩ : Tm)]), ⟨acc ++ [(⟨t.var, (addS t.c u.c).1⟩ : Tm)], by simp, fun q hq => ox q (by simp [hq]), fun q hq => oy q (by simp [hq]), by simp at hlen ⊢; omega, ?_⟩, by show xs.length + ys.length < xs.length + 1 + (ys.length + 1); omega, .inr ⟨[0, 1], ⟨rfl, rfl⟩, rfl, rfl, rfl, rfl, trivial⟩⟩
          rw [← hs, addT_eq _ _ h4' h5' h6', con_yes (t := (⟨t.var, (addS t.c u.c).1⟩ : Tm)) h9']
        · have h9' : (addS t.c u.c).1 = 0 := by simpa using h9
          refine ⟨(xs, ys, acc.map Tm.e), ⟨acc, rfl, fun q hq => ox q (by simp [hq]), fun q hq => oy q (by simp [hq]), by simp at hlen ⊢; omega, ?_⟩, by show xs.length + ys.length < xs.length + 1 + (ys.length + 1); omega, .inr ⟨[0, 1], ⟨rfl, rfl⟩, rfl, rfl, rfl, rfl, trivial⟩⟩
          rw [← hs, addT_eq _ _ h4' h5' h6', con_no (t := (⟨t.var, (addS t.c u.c).1⟩ : Tm)) h9']
end Go.Proofs.Ytlafnhpmhflnaaa.Q
