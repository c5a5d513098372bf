/- How verdicts are read; the library's variables. No condition. -/
import Derived.Test.YtblnfodnkacbbaaGreatDoorRows
import Derived.Test.YtblnfodnkacbbaaGreatDoorME
import Derived.Test.YtblnfodnkacbbaaGreatDoorMF
import Derived.Stop.LaidErr
import Derived.Stop.Joined
import Derived.Lib.LaidTab
import Derived.LaidHandle
import Derived.OpenVars
import Derived.Handed
import Derived.SizedLaws
import Derived.Shelf.Vars
set_option linter.unusedVariables false
set_option linter.unusedSectionVars false
set_option linter.unnecessarySimpa false
set_option linter.unusedSimpArgs false
set_option maxRecDepth 100000
namespace Go.Proofs.YtblnfodnkacbbaaGreatDoor.Q
open Go.RowKit
/-! ### verdicts -/
theorem rd_Pk (fuel : Nat) : RdD Tryz.prog fuel 91 (fun r => ∃ x : Pk, x.ok ∧ r = x.e) := by
  refine (rdD_struct (fs := [(3, 0), (3, 1), (3, 2)]) (by kernel_rfl) (sz := 1 + (1 + 1)) (by kernel_rfl) fuel fun m hm =>
    frD_cons (by kernel_rfl) (rd_int m) (frD_cons (by kernel_rfl) (rd_int m) (frD_last (by kernel_rfl) (rd_int m)))).mono ?_
  rintro r ⟨_, _, ⟨a, h1, rfl⟩, ⟨_, _, ⟨b, h2, rfl⟩, ⟨c, h3, rfl⟩, rfl⟩, rfl⟩
  exact ⟨⟨a, b, c⟩, ⟨h1, h2, h3⟩, rfl⟩
theorem rd_Pks (fuel : Nat) : RdD Tryz.prog fuel 24 (fun r => ∃ l : List Pk, (∀ p ∈ l, p.ok) ∧ r = [.sl (l.map Pk.e)]) :=
  (rdD_slice (sz := 3) (e := 91) (by kernel_rfl) (by kernel_rfl) (by decide) fuel fun m _ => rd_Pk m).mono fun r ⟨rows, h1, h2, e⟩ => by
    obtain ⟨l, rfl, h3⟩ := rows_map h1
    exact ⟨l, h3, e⟩
theorem rd_Ls (fuel : Nat) : RdD Tryz.prog fuel 26 (fun r => ∃ x : Ls, x.ok ∧ r = [.sl (x.stem.map Pk.e), .sl (x.loop.map Pk.e), .int .i64 x.thread]) := by
  refine (rdD_struct (fs := [(24, 0), (24, 1), (3, 2)]) (by kernel_rfl) (sz := 1 + (1 + 1)) (by kernel_rfl) fuel fun m hm =>
    frD_cons (by kernel_rfl) (rd_Pks m) (frD_cons (by kernel_rfl) (rd_Pks m) (frD_last (by kernel_rfl) (rd_int m)))).mono ?_
  rintro r ⟨_, _, ⟨a, h1, rfl⟩, ⟨_, _, ⟨b, h2, rfl⟩, ⟨c, h3, rfl⟩, rfl⟩, rfl⟩
  exact ⟨⟨a, b, c⟩, ⟨h1, h2, h3⟩, rfl⟩
theorem rd_ints (fuel : Nat) : RdD Tryz.prog fuel 23 (fun r => ∃ l : List Int, (∀ n ∈ l, R64 n) ∧ r = [.sl (l.map icell)]) :=
  (rdD_slice (sz := 1) (e := 3) (by kernel_rfl) (by kernel_rfl) (by decide) fuel fun m _ => rd_int m).mono fun r ⟨rows, h1, h2, e⟩ => by
    obtain ⟨l, rfl, h3⟩ := rows_map (f := icell) (p := R64) h1
    exact ⟨l, h3, e⟩
theorem rd_Vd (fuel : Nat) : RdD Tryz.prog fuel 28 (fun r => ∃ x : Vd, x.num ∧ r = [.int .i64 x.kind, .int .i64 x.err, .int .i64 x.at', .int .i64 x.seen, .sl (x.counts.map icell), .int .i64 x.what, .sl (x.way.stem.map Pk.e), .sl (x.way.loop.map Pk.e), .int .i64 x.way.thread]) := by
  refine (rdD_struct (fs := [(3, 0), (22, 1), (3, 2), (3, 3), (23, 4), (3, 5), (26, 6)]) (by kernel_rfl) (sz := 1 + (1 + (1 + (1 + (1 + (1 + 3)))))) (by kernel_rfl) fuel fun m hm =>
    frD_cons (by kernel_rfl) (rd_int m) (frD_cons (by kernel_rfl) (rdD_i64 (by kernel_rfl) m) (frD_cons (by kernel_rfl) (rd_int m) (frD_cons (by kernel_rfl) (rd_int m) (frD_cons (by kernel_rfl) (rd_ints m) (frD_cons (by kernel_rfl) (rd_int m) (frD_last (by kernel_rfl) (rd_Ls m)))))))).mono ?_
  rintro r ⟨_, _, ⟨a, h1, rfl⟩, ⟨_, _, ⟨b, h2, rfl⟩, ⟨_, _, ⟨c, h3, rfl⟩, ⟨_, _, ⟨e, h4, rfl⟩, ⟨_, _, ⟨f, h5, rfl⟩, ⟨_, _, ⟨g, h6, rfl⟩, ⟨w, h7, rfl⟩, rfl⟩, rfl⟩, rfl⟩, rfl⟩, rfl⟩, rfl⟩
  exact ⟨⟨a, b, c, e, f, g, w⟩, ⟨h1, h2, h3, h4, h5, h6, h7⟩, rfl⟩
section
variable {H : Type} {enc : TypeId × Value → H} {d : DataW H} {p : List MemPlace} {base : Nat}
theorem read_Vd (W : World) (v : Value) (hv : Value.okWide Tryz.prog W .any base 28 v) (h : DataW.Trod enc Tryz.prog W 0 (fun _ => true) true 28 v d p) : ∃ x : Vd, x.num ∧ x.v.rep (allG W) (fun _ _ => none) v := by
  obtain ⟨r, ⟨x, hx, rfl⟩, hr⟩ := read_agg (fs := [(3, 0), (22, 1), (3, 2), (3, 3), (23, 4), (3, 5), (26, 6)]) (by kernel_rfl) rd_Vd hv h
  exact ⟨x, hx, hr⟩
end
/-! ### variables -/
def powB : Nat × List Value := (3, Lib.pow10Tab.map (Value.int .u64))
/-- Nothing is called back; the listed variables stand as they are. -/
abbrev ambR (m : Int) (e1 e2 : Value) : Amb where
  tabs := [powB, (0, [.int .i64 m]), (1, [e1]), (2, [e2])]
  memo := fun _ _ _ _ => False
  memo_mono := fun _ h => h
  l := 0
  J := fun _ _ _ _ => False
  ok := fun _ _ => False
  go := fun _ => true
  lt := fun h => h.elim
  stable := fun h => h.elim
  yield := fun _ _ h => h.elim
def isErr (ev : Value) : Prop := ev = .nilIface ∨ ∃ te pe, ev = .iface te pe
theorem varsR {m : Int} {e1 e2 : Value} (h1 : isErr e1) (h2 : isErr e2) : @Vars (ambR m e1 e2) :=
  @Vars.mk (ambR m e1 e2) ⟨3, by kernel_rfl, List.mem_cons_self⟩ ⟨m, List.mem_cons_of_mem _ List.mem_cons_self⟩
    ⟨e1, List.mem_cons_of_mem _ (List.mem_cons_of_mem _ List.mem_cons_self), h1⟩ ⟨e2, List.mem_cons_of_mem _ (List.mem_cons_of_mem _ (List.mem_cons_of_mem _ List.mem_cons_self)), h2⟩
/-- The variables' blocks in a world. -/
structure VarsAt (W : World) (m : Int) (e1 e2 : Value) : Prop where
  pow : Lib.TabIs Tryz.prog W "internal/strconv.uint64pow10" .u64 Lib.pow10Tab
  max : ∃ T fr, W.heap[0]? = some (.cells #[.int .i64 m] T fr)
  s1 : ∃ T fr, W.heap[1]? = some (.cells #[e1] T fr)
  s2 : ∃ T fr, W.heap[2]? = some (.cells #[e2] T fr)
  i1 : isErr e1
  i2 : isErr e2
theorem tab1 {W : World} {g : Nat} {v : Value} (h : ∃ T fr, W.heap[g]? = some (.cells #[v] T fr)) (h1 : v.oneCell' = true) : TabOk (allG W) W (g, [v]) := by
  refine ⟨by simp, h, fun j u hj => ?_⟩
  cases j with
  | succ j => simp at hj
  | zero =>
    simp at hj; subst hj
    obtain ⟨T, fr, h⟩ := h
    exact allG_of (by unfold World.cell?; dsimp only; rw [h]; rfl) h1
theorem isErr.one {v : Value} (h : isErr v) : v.oneCell' = true := by
  rcases h with rfl | ⟨_, _, rfl⟩ <;> rfl
theorem ambR_sit {W : World} {m : Int} {e1 e2 : Value} (hv : VarsAt W m e1 e2) : @Sit (ambR m e1 e2) (allG W) W (fun _ _ => none) (hp []) := by
  refine @Sit.mk (ambR m e1 e2) _ _ _ _ ⟨fun _ _ _ h => .inl (allG_cell h), fun p hp => ?_⟩ (fun i ob h => by cases h) (fun i j ob ob' b _ h => by cases h) (fun _ _ _ => rfl)
  have hp : p ∈ [powB, (0, [.int .i64 m]), (1, [e1]), (2, [e2])] := hp
  simp only [List.mem_cons, List.not_mem_nil, or_false] at hp
  rcases hp with rfl | rfl | rfl | rfl
  · have h := hv.pow
    have hg : Tryz.prog.globalNamed "internal/strconv.uint64pow10" = some 3 := by kernel_rfl
    have hv := World.var?_cell hg h
    unfold Lib.TabIs World.var? at h
    rw [hg] at h
    have hb : ∃ T fr, W.heap[3]? = some (.cells (Lib.pow10Tab.map (Value.int .u64)).toArray T fr) := by
      revert h
      show (match W.heap[3]? with
        | some (.cells cs _ _) => some cs
        | _ => none) = _ → _
      intro h
      split at h
      · rename_i cs T fr e
        exact ⟨T, fr, by rw [e]; injection h with h; rw [h]⟩
      · cases h
    refine ⟨by decide, hb, fun j v hj => allG_of ?_ ?_⟩
    · exact (hv j).trans (by simpa [powB] using hj)
    · have hm := List.mem_of_getElem? hj
      obtain ⟨n, _, rfl⟩ := List.mem_map.1 hm
      rfl
  · exact tab1 hv.max rfl
  · exact tab1 hv.s1 hv.i1.one
  · exact tab1 hv.s2 hv.i2.one
/-! ### a row's condition -/
theorem var_heap {W : World} {n : String} {g : Nat} {cs : Array Value} (hg : Tryz.prog.globalNamed n = some g) (h : W.var? Tryz.prog n = some cs) : ∃ T fr, W.heap[g]? = some (.cells cs T fr) := by
  unfold World.var? at h
  rw [hg] at h
  revert h
  show (match W.heap[g]? with
    | some (.cells cs _ _) => some cs
    | _ => none) = _ → _
  intro h
  split at h
  · rename_i cs' T fr e
    injection h with h; subst h
    exact ⟨T, fr, e⟩
  · cases h
theorem starE : "*" ++ "errors.errorString" = "*errors.errorString" := by decide
theorem rowE (u : TypeId) (h : Tryz.prog.typeName? 3 u = some "*errors.errorString") : u = 326 :=
  typeName_ptr_named (nm := "errors.errorString") (by rw [starE]; kernel_rfl) (by kernel_rfl) (by decide) u (by rw [starE]; exact h)
theorem vars_at {W : World} (hs : W.ShapedOpen Tryz.prog) (h : laidMet Tryz.prog Rows.reportBackRow.laid W) : ∃ m e1 e2, VarsAt W m e1 e2 := by
  have h3 := h.tail.tail
  have e : (Rows.laid_internal_strconv_uint64pow10 : DataW Unit) = Lib.tabData .u64 Lib.pow10Tab := by kernel_rfl
  have hp : Lib.TabIs Tryz.prog W "internal/strconv.uint64pow10" .u64 Lib.pow10Tab := by
    rw [e] at h3
    exact Lib.tabIs_of_head (g := 3) (t := 314) (e := 174) (n := 20) (by kernel_rfl) (by kernel_rfl) (by kernel_rfl) (by kernel_rfl) (by kernel_rfl) (by kernel_rfl) h3
  have h5 := h.tail.tail.tail.tail
  obtain ⟨a2, s2, r1, _⟩ := laid_sentinel (g := 2) (ti := 110) (tp := 326) (te := 328) (ts := 9) h5 (by kernel_rfl) (by kernel_rfl) Tryz.underlying110 rowE Tryz.underlying326 Tryz.underlying328 rfl rfl Tryz.underlying9 (by kernel_rfl) (by kernel_rfl)
  have h6 := h5.tail
  obtain ⟨a1, s1, r2, _⟩ := laid_sentinel (g := 1) (ti := 110) (tp := 326) (te := 328) (ts := 9) h6 (by kernel_rfl) (by kernel_rfl) Tryz.underlying110 rowE Tryz.underlying326 Tryz.underlying328 rfl rfl Tryz.underlying9 (by kernel_rfl) (by kernel_rfl)
  have h0 : ((begin Tryz.prog (fun _ _ => 0) default).world.heap[0]?).bind Obj.row? = some (#[.int .i64 0], 3) := by kernel_rfl
  have hlt : 0 < Tryz.prog.globals.size := by
    have : Tryz.prog.globalNamed "internal/bytealg.MaxLen" = some 0 := by kernel_rfl
    exact of_decide_eq_true (by kernel_rfl)
  obtain ⟨m, hm⟩ := cell_of_shapedOpen_int (k := .i64) hs hlt h0 rfl (by kernel_rfl) (by kernel_rfl) (by kernel_rfl)
  obtain ⟨cs, c1, c2, _⟩ := hs.1 0 _ _ hlt h0
  have hcs : cs = #[.int .i64 m] := by
    obtain ⟨l⟩ := cs
    have hl : l.length = 1 := c2
    match l, hl with
    | [x], _ =>
      unfold World.cell? at hm
      dsimp only at hm
      rw [c1] at hm
      have hm : x = .int .i64 m := by simpa using hm
      rw [hm]
  exact ⟨m, _, _, hp, ⟨_, _, by rw [c1, hcs]⟩, var_heap (by kernel_rfl) r2, var_heap (by kernel_rfl) r1, .inr ⟨_, _, rfl⟩, .inr ⟨_, _, rfl⟩⟩
/-- The plain wrap with a condition on the world, the world's shape kept. -/
theorem returns_shaped {H : Type} {enc : TypeId × Value → H} {a : Assume} {C : Checked} {os : Os} {f : FuncId} {fn : Func} {s : ChangeSpec} {conds : List PathCond} {apart fresh handsOn again : Bool} {X : World → Array Value → Prop}
    (hX : ∀ (w w' : World) (args : Array Value), w.heap = w'.heap → X w args → X w' args)
    (own : ownKnob C.prog.godebug = none) (started : os.Started) (noInit : C.prog.inits.idxOf? f = none) (hfn : C.prog.funcs[f]? = some fn)
    (witness : ∃ (w : World) (tape : Tape) (i : Input), w.os = os ∧ (w.forCall tape i).Shaped C.prog ∧ i.vars = [] ∧ Input.okWide C.prog (w.forCall tape i) .any w.heap.size f i ∧
      ((s.pre enc C.prog fn conds apart (w.forCall tape i).memory i.args ∧ X (w.forCall tape i).memory i.args) ∧ sizedMet enc C.prog fn (OpenSpec.ofChange s) apart (w.forCall tape i).memory i.args) ∧ a.holds C.prog (lone (Frame.enter C.prog f i.args .normal) [] (w.forCall tape i)))
    (contract : ∀ (W : World) (base : Nat) (args : Array Value) (ds gs : List (DataW H)) (before : List MemPlace),
      (∀ (j : Nat) t v, fn.params[j]? = some t → args[j]? = some v → Value.okWide C.prog W .any base t v) →
      DataW.Whole enc C.prog fn.params.toList s.vars apart W args.toList ds gs before → X W args → W.ShapedOpen C.prog →
      Calls C.prog f args W fun e W' => ∃ v, e = .returned v ∧ s.post enc C.prog fn apart fresh handsOn again W args v W') :
    ReturnsInHanded a C os f .any (fun w args => (s.pre enc C.prog fn conds apart w args ∧ X w args) ∧ sizedMet enc C.prog fn (OpenSpec.ofChange s) apart w args) (s.post enc C.prog fn apart fresh handsOn again) := by
  refine returnsInHanded_of_calls own started noInit witness ?_
  intro w tape i _ hsh _ hok hpre _
  obtain ⟨_, _, _, fn', hfn', _, _, _, _, hval⟩ := hok
  obtain rfl : fn' = fn := Option.some.inj (hfn'.symm.trans hfn)
  obtain ⟨⟨⟨ds, gs, before, hw, _⟩, hx⟩, _⟩ := hpre
  refine (contract (w.forCall tape i) w.heap.size i.args ds gs before hval (DataW.Whole.of_heap (w' := w.forCall tape i) (by rfl) hw) (hX _ _ _ (by rfl) hx) hsh).mono fun e W' ⟨v, he, hp⟩ => ?_
  subst he
  exact ChangeSpec.post_blind hp
end Go.Proofs.YtblnfodnkacbbaaGreatDoor.Q
