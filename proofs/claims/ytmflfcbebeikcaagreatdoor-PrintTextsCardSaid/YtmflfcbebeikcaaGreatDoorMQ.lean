/- Trees that are the same; an expression's text is parsed back. No condition. -/
import Derived.Test.YtmflfcbebeikcaaGreatDoorMC
import Derived.Test.YtmflfcbebeikcaaGreatDoorMB
import Derived.Test.YtmflfcbebeikcaaGreatDoorMN
import Derived.Test.YtmflfcbebeikcaaGreatDoorME
import Derived.Test.YtmflfcbebeikcaaGreatDoorMD
import Derived.Test.YtmflfcbebeikcaaGreatDoorMF
import Derived.Test.YtmflfcbebeikcaaGreatDoorML
set_option linter.unusedVariables false
set_option linter.unusedSectionVars false
set_option linter.unnecessarySimpa false
set_option linter.unusedSimpArgs false
set_option maxRecDepth 100000
set_option maxHeartbeats 4000000
namespace Go.Proofs.YtmflfcbebeikcaaGreatDoor.Q
open Go.RowKit
variable [Amb]
def eqL {α : Type} (p : α → α → Bool) : List α → List α → Bool
  | [], [] => true
  | a :: xs, b :: ys => p a b && eqL p xs ys
  | _, _ => false
theorem eqL_len {α : Type} {p : α → α → Bool} : ∀ {xs ys : List α}, xs.length ≠ ys.length → eqL p xs ys = false
  | [], [], h => absurd rfl h
  | [], b :: ys, _ => rfl
  | a :: xs, [], _ => rfl
  | a :: xs, b :: ys, h => by rw [eqL, eqL_len (by simpa using h), Bool.and_false]
theorem eqL_at {α : Type} {p : α → α → Bool} {xs ys : List α} {k : Nat} (h : k < xs.length) (h' : k < ys.length) : eqL p (xs.drop k) (ys.drop k) = (p xs[k] ys[k] && eqL p (xs.drop (k + 1)) (ys.drop (k + 1))) := by
  rw [List.drop_eq_getElem_cons h, List.drop_eq_getElem_cons h']; rfl
theorem eqL_end {α : Type} {p : α → α → Bool} {xs ys : List α} {k : Nat} (h : xs.length ≤ k) (h' : ys.length ≤ k) : eqL p (xs.drop k) (ys.drop k) = true := by
  rw [List.drop_of_length_le h, List.drop_of_length_le h']; rfl
mutual
def Ex.same : Ex → Ex → Bool
  | ⟨op, mon, name, n, kids, _⟩, ⟨op', mon', name', n', kids', _⟩ => (op == op') && (mon == mon') && (name == name') && (n == n') && Ex.sames kids kids'
def Ex.sames : List Ex → List Ex → Bool
  | [], [] => true
  | a :: xs, b :: ys => a.same b && Ex.sames xs ys
  | _, _ => false
end
theorem Ex.sames_eqL : ∀ xs ys : List Ex, Ex.sames xs ys = eqL Ex.same xs ys
  | [], [] => by rw [Ex.sames, eqL]
  | a :: xs, b :: ys => by rw [Ex.sames, eqL, Ex.sames_eqL xs ys]
  | [], b :: ys => by rw [Ex.sames, eqL] <;> simp
  | a :: xs, [] => by rw [Ex.sames, eqL] <;> simp
theorem Ex.same_eq (a b : Ex) : a.same b = ((a.op == b.op) && (a.mon == b.mon) && (a.name == b.name) && (a.n == b.n) && eqL Ex.same a.kids b.kids) := by
  cases a; cases b; rw [Ex.same, Ex.sames_eqL]
mutual
def St.same : St → St → Bool
  | ⟨kind, mon, name, n, e, blocks, _⟩, ⟨kind', mon', name', n', e', blocks', _⟩ => (kind == kind') && (mon == mon') && (name == name') && (n == n') && e.same e' && St.sameB blocks blocks'
def St.sameL : List St → List St → Bool
  | [], [] => true
  | a :: xs, b :: ys => a.same b && St.sameL xs ys
  | _, _ => false
def St.sameB : List (List St) → List (List St) → Bool
  | [], [] => true
  | a :: xs, b :: ys => St.sameL a b && St.sameB xs ys
  | _, _ => false
end
theorem St.sameL_eqL : ∀ xs ys : List St, St.sameL xs ys = eqL St.same xs ys
  | [], [] => by rw [St.sameL, eqL]
  | a :: xs, b :: ys => by rw [St.sameL, eqL, St.sameL_eqL xs ys]
  | [], b :: ys => by rw [St.sameL, eqL] <;> simp
  | a :: xs, [] => by rw [St.sameL, eqL] <;> simp
theorem St.sameB_eqL : ∀ xs ys : List (List St), St.sameB xs ys = eqL (eqL St.same) xs ys
  | [], [] => by rw [St.sameB, eqL]
  | a :: xs, b :: ys => by rw [St.sameB, eqL, St.sameB_eqL xs ys, St.sameL_eqL]
  | [], b :: ys => by rw [St.sameB, eqL] <;> simp
  | a :: xs, [] => by rw [St.sameB, eqL] <;> simp
theorem St.same_eq (a b : St) : a.same b = ((a.kind == b.kind) && (a.mon == b.mon) && (a.name == b.name) && (a.n == b.n) && a.e.same b.e && eqL (eqL St.same) a.blocks b.blocks) := by
  cases a; cases b; rw [St.same, St.sameB_eqL]
def Vr.same (a b : Vr) : Bool := (a.name == b.name) && (a.type == b.type) && (a.lo == b.lo) && (a.hi == b.hi) && (a.init == b.init)
def Mt.same (a b : Mt) : Bool := (a.name == b.name) && eqL St.same a.body b.body
def Mo.same (a b : Mo) : Bool := (a.name == b.name) && eqL Vr.same a.vars b.vars && eqL Mt.same a.methods b.methods
def Ro.same (a b : Ro) : Bool := (a.name == b.name) && (a.star == b.star) && (a.count == b.count) && eqL St.same a.body b.body
def Pg.same (a b : Pg) : Bool := eqL Mo.same a.mons b.mons && eqL Ro.same a.roles b.roles
/-- Lists that are not longer than any machine holds. -/
abbrev big : Nat := 1099511627776
inductive Ex.Fit : Ex → Prop
  | mk {op : Int} {mon name : Str} {n : Int} {kids : List Ex} {pl : Int} (h : kids.length < big) (k : ∀ y ∈ kids, Ex.Fit y) : Ex.Fit ⟨op, mon, name, n, kids, pl⟩
inductive St.Fit : St → Prop
  | mk {kind : Int} {mon name : Str} {n : Int} {e : Ex} {blocks : List (List St)} {pl : Int} (he : e.Fit) (h : blocks.length < big) (hb : ∀ b ∈ blocks, b.length < big) (k : ∀ b ∈ blocks, ∀ y ∈ b, St.Fit y) : St.Fit ⟨kind, mon, name, n, e, blocks, pl⟩
structure Bd (l : List St) : Prop where
  len : l.length < big
  fit : ∀ y ∈ l, y.Fit
structure Pg.Fit (p : Pg) : Prop where
  mons : p.mons.length < big
  roles : p.roles.length < big
  vars : ∀ m ∈ p.mons, m.vars.length < big
  meths : ∀ m ∈ p.mons, m.methods.length < big
  body : ∀ m ∈ p.mons, ∀ f ∈ m.methods, Bd f.body
  rbody : ∀ r ∈ p.roles, Bd r.body

theorem Ex.atRow {l : List (Ex)} {k : Nat} {K : List D → Prop} (h : k < l.length) (c : K [.int .i64 l[k].op, .str l[k].mon, .str l[k].name, .int .i64 l[k].n, .sl (l[k].kids.map Ex.e), .int .i64 l[k].pl]) : PIdx (l.map Ex.e) (k : Int) K := PIdx.map (get_at h) (by
  have e : Ex.e l[k] = [.int .i64 l[k].op, .str l[k].mon, .str l[k].name, .int .i64 l[k].n, .sl (l[k].kids.map Ex.e), .int .i64 l[k].pl] := by rw [Ex.e_row]; rfl
  rw [e]; exact c)
theorem eqfEx_c (g : FuncId) (p : Ex → Ex → Bool) (xs ys : List (Ex)) (h : ∀ a ∈ xs, ∀ b ∈ ys, PFun Tryz.prog g [Ex.v a, Ex.v b] [] (.d (.bool (p a b))) []) (hl : xs.length < big) :
    PFun Tryz.prog 162 [.d (.sl (xs.map Ex.e)), .d (.sl (ys.map Ex.e)), .fn (.func g) [] []] [] (.d (.bool (eqL p xs ys))) [] := by
  refine fn_sem pok 32 0 Tryz.func162 (by kernel_rfl) rfl rfl rfl rfl ?_
  refine SWp.go pok (by kernel_rfl) ?_
  by_cases hlen : xs.length = ys.length
  case neg =>
    refine brP_true (by simp; omega) ?_
    exact fin1 (dbool (eqL_len hlen).symm)
  refine brP_false (by simp; omega) ?_
  refine SWp.loop (fun k : Nat => k ≤ xs.length ∧ eqL p (xs.drop k) (ys.drop k) = eqL p xs ys) (fun k => ([(1, .d (.sl (ys.map Ex.e))), (2, .fn (.func g) [] []), (15, .d (.sl (xs.map Ex.e))), (16, iv (xs.map Ex.e).length), (17, iv k)], [])) (fun k => xs.length - k) 0 ⟨Nat.zero_le _, rfl⟩ (Le.same ⟨rfl, rfl, rfl, rfl, rfl, trivial⟩) (fun k hk => ?_)
  obtain ⟨hkl, hk⟩ := hk
  refine SWp.go pok (by kernel_rfl) ?_
  refine brP_split (fun h1 => ?_) (fun h1 => ?_)
  · have hlt : k < xs.length := by simpa using h1
    have hlt' : k < ys.length := by omega
    have hat := eqL_at (p := p) hlt hlt'
    refine Ex.atRow hlt ?_
    refine Ex.atRow hlt' ?_
    refine PFun.call (h xs[k] (List.getElem_mem hlt) ys[k] (List.getElem_mem hlt')) ?_
    refine brP_split (fun h2 => ?_) (fun h2 => ?_)
    · have h2 : p xs[k] ys[k] = false := by simpa using h2
      exact fin1 (dbool (by rw [← hk, hat, h2]; rfl))
    · have h2 : p xs[k] ys[k] = true := by simpa using h2
      exact ⟨k + 1, ⟨hlt, by rw [← hk, hat, h2]; rfl⟩, by omega, .inr ⟨[], ⟨rfl, rfl⟩, rfl, rfl, rfl, rfl, rfl, sint (wrap_nat k (by simp only [big] at hl; omega)), trivial⟩⟩
  · have hge : xs.length ≤ k := by simp at h1; omega
    exact fin1 (dbool (by rw [← hk, eqL_end hge (by omega)]))

theorem St.atRow {l : List (St)} {k : Nat} {K : List D → Prop} (h : k < l.length) (c : K [.int .i64 l[k].kind, .str l[k].mon, .str l[k].name, .int .i64 l[k].n, .int .i64 l[k].e.op, .str l[k].e.mon, .str l[k].e.name, .int .i64 l[k].e.n, .sl (l[k].e.kids.map Ex.e), .int .i64 l[k].e.pl, .sl (l[k].blocks.map blk), .int .i64 l[k].pl]) : PIdx (l.map St.c) (k : Int) K := PIdx.map (get_at h) (by
  have e : St.c l[k] = [.int .i64 l[k].kind, .str l[k].mon, .str l[k].name, .int .i64 l[k].n, .int .i64 l[k].e.op, .str l[k].e.mon, .str l[k].e.name, .int .i64 l[k].e.n, .sl (l[k].e.kids.map Ex.e), .int .i64 l[k].e.pl, .sl (l[k].blocks.map blk), .int .i64 l[k].pl] := by rw [St.c_eq, Ex.e_row]; rfl
  rw [e]; exact c)
theorem eqfSt_c (g : FuncId) (p : St → St → Bool) (xs ys : List (St)) (h : ∀ a ∈ xs, ∀ b ∈ ys, PFun Tryz.prog g [St.v a, St.v b] [] (.d (.bool (p a b))) []) (hl : xs.length < big) :
    PFun Tryz.prog 113 [.d (.sl (xs.map St.c)), .d (.sl (ys.map St.c)), .fn (.func g) [] []] [] (.d (.bool (eqL p xs ys))) [] := by
  refine fn_sem pok 32 0 Tryz.func113 (by kernel_rfl) rfl rfl rfl rfl ?_
  refine SWp.go pok (by kernel_rfl) ?_
  by_cases hlen : xs.length = ys.length
  case neg =>
    refine brP_true (by simp; omega) ?_
    exact fin1 (dbool (eqL_len hlen).symm)
  refine brP_false (by simp; omega) ?_
  refine SWp.loop (fun k : Nat => k ≤ xs.length ∧ eqL p (xs.drop k) (ys.drop k) = eqL p xs ys) (fun k => ([(1, .d (.sl (ys.map St.c))), (2, .fn (.func g) [] []), (15, .d (.sl (xs.map St.c))), (16, iv (xs.map St.c).length), (17, iv k)], [])) (fun k => xs.length - k) 0 ⟨Nat.zero_le _, rfl⟩ (Le.same ⟨rfl, rfl, rfl, rfl, rfl, trivial⟩) (fun k hk => ?_)
  obtain ⟨hkl, hk⟩ := hk
  refine SWp.go pok (by kernel_rfl) ?_
  refine brP_split (fun h1 => ?_) (fun h1 => ?_)
  · have hlt : k < xs.length := by simpa using h1
    have hlt' : k < ys.length := by omega
    have hat := eqL_at (p := p) hlt hlt'
    refine St.atRow hlt ?_
    refine St.atRow hlt' ?_
    refine PFun.call (h xs[k] (List.getElem_mem hlt) ys[k] (List.getElem_mem hlt')) ?_
    refine brP_split (fun h2 => ?_) (fun h2 => ?_)
    · have h2 : p xs[k] ys[k] = false := by simpa using h2
      exact fin1 (dbool (by rw [← hk, hat, h2]; rfl))
    · have h2 : p xs[k] ys[k] = true := by simpa using h2
      exact ⟨k + 1, ⟨hlt, by rw [← hk, hat, h2]; rfl⟩, by omega, .inr ⟨[], ⟨rfl, rfl⟩, rfl, rfl, rfl, rfl, rfl, sint (wrap_nat k (by simp only [big] at hl; omega)), trivial⟩⟩
  · have hge : xs.length ≤ k := by simp at h1; omega
    exact fin1 (dbool (by rw [← hk, eqL_end hge (by omega)]))

theorem Bl.atRow {l : List (List St)} {k : Nat} {K : List D → Prop} (h : k < l.length) (c : K [.sl (l[k].map St.c)]) : PIdx (l.map blk) (k : Int) K := PIdx.map (get_at h) (by
  have e : blk l[k] = [.sl (l[k].map St.c)] := rfl
  rw [e]; exact c)
theorem eqfBl_c (g : FuncId) (p : List St → List St → Bool) (xs ys : List (List St)) (h : ∀ a ∈ xs, ∀ b ∈ ys, PFun Tryz.prog g [V.d (.sl (a.map St.c)), V.d (.sl (b.map St.c))] [] (.d (.bool (p a b))) []) (hl : xs.length < big) :
    PFun Tryz.prog 144 [.d (.sl (xs.map blk)), .d (.sl (ys.map blk)), .fn (.func g) [] []] [] (.d (.bool (eqL p xs ys))) [] := by
  refine fn_sem pok 32 0 Tryz.func144 (by kernel_rfl) rfl rfl rfl rfl ?_
  refine SWp.go pok (by kernel_rfl) ?_
  by_cases hlen : xs.length = ys.length
  case neg =>
    refine brP_true (by simp; omega) ?_
    exact fin1 (dbool (eqL_len hlen).symm)
  refine brP_false (by simp; omega) ?_
  refine SWp.loop (fun k : Nat => k ≤ xs.length ∧ eqL p (xs.drop k) (ys.drop k) = eqL p xs ys) (fun k => ([(1, .d (.sl (ys.map blk))), (2, .fn (.func g) [] []), (15, .d (.sl (xs.map blk))), (16, iv (xs.map blk).length), (17, iv k)], [])) (fun k => xs.length - k) 0 ⟨Nat.zero_le _, rfl⟩ (Le.same ⟨rfl, rfl, rfl, rfl, rfl, trivial⟩) (fun k hk => ?_)
  obtain ⟨hkl, hk⟩ := hk
  refine SWp.go pok (by kernel_rfl) ?_
  refine brP_split (fun h1 => ?_) (fun h1 => ?_)
  · have hlt : k < xs.length := by simpa using h1
    have hlt' : k < ys.length := by omega
    have hat := eqL_at (p := p) hlt hlt'
    refine Bl.atRow hlt ?_
    refine Bl.atRow hlt' ?_
    refine PFun.call (h xs[k] (List.getElem_mem hlt) ys[k] (List.getElem_mem hlt')) ?_
    refine brP_split (fun h2 => ?_) (fun h2 => ?_)
    · have h2 : p xs[k] ys[k] = false := by simpa using h2
      exact fin1 (dbool (by rw [← hk, hat, h2]; rfl))
    · have h2 : p xs[k] ys[k] = true := by simpa using h2
      exact ⟨k + 1, ⟨hlt, by rw [← hk, hat, h2]; rfl⟩, by omega, Le.same ⟨rfl, rfl, rfl, rfl, sint (wrap_nat k (by simp only [big] at hl; omega)), trivial⟩⟩
  · have hge : xs.length ≤ k := by simp at h1; omega
    exact fin1 (dbool (by rw [← hk, eqL_end hge (by omega)]))

theorem Vr.atRow {l : List (Vr)} {k : Nat} {K : List D → Prop} (h : k < l.length) (c : K [.str l[k].name, .int .i64 l[k].type, .int .i64 l[k].lo, .int .i64 l[k].hi, .int .i64 l[k].init, .int .i64 l[k].pl]) : PIdx (l.map Vr.c) (k : Int) K := PIdx.map (get_at h) (by
  have e : Vr.c l[k] = [.str l[k].name, .int .i64 l[k].type, .int .i64 l[k].lo, .int .i64 l[k].hi, .int .i64 l[k].init, .int .i64 l[k].pl] := rfl
  rw [e]; exact c)
theorem eqfVr_c (g : FuncId) (p : Vr → Vr → Bool) (xs ys : List (Vr)) (h : ∀ a ∈ xs, ∀ b ∈ ys, PFun Tryz.prog g [Vr.v a, Vr.v b] [] (.d (.bool (p a b))) []) (hl : xs.length < big) :
    PFun Tryz.prog 69 [.d (.sl (xs.map Vr.c)), .d (.sl (ys.map Vr.c)), .fn (.func g) [] []] [] (.d (.bool (eqL p xs ys))) [] := by
  refine fn_sem pok 32 0 Tryz.func69 (by kernel_rfl) rfl rfl rfl rfl ?_
  refine SWp.go pok (by kernel_rfl) ?_
  by_cases hlen : xs.length = ys.length
  case neg =>
    refine brP_true (by simp; omega) ?_
    exact fin1 (dbool (eqL_len hlen).symm)
  refine brP_false (by simp; omega) ?_
  refine SWp.loop (fun k : Nat => k ≤ xs.length ∧ eqL p (xs.drop k) (ys.drop k) = eqL p xs ys) (fun k => ([(1, .d (.sl (ys.map Vr.c))), (2, .fn (.func g) [] []), (15, .d (.sl (xs.map Vr.c))), (16, iv (xs.map Vr.c).length), (17, iv k)], [])) (fun k => xs.length - k) 0 ⟨Nat.zero_le _, rfl⟩ (Le.same ⟨rfl, rfl, rfl, rfl, rfl, trivial⟩) (fun k hk => ?_)
  obtain ⟨hkl, hk⟩ := hk
  refine SWp.go pok (by kernel_rfl) ?_
  refine brP_split (fun h1 => ?_) (fun h1 => ?_)
  · have hlt : k < xs.length := by simpa using h1
    have hlt' : k < ys.length := by omega
    have hat := eqL_at (p := p) hlt hlt'
    refine Vr.atRow hlt ?_
    refine Vr.atRow hlt' ?_
    refine PFun.call (h xs[k] (List.getElem_mem hlt) ys[k] (List.getElem_mem hlt')) ?_
    refine brP_split (fun h2 => ?_) (fun h2 => ?_)
    · have h2 : p xs[k] ys[k] = false := by simpa using h2
      exact fin1 (dbool (by rw [← hk, hat, h2]; rfl))
    · have h2 : p xs[k] ys[k] = true := by simpa using h2
      exact ⟨k + 1, ⟨hlt, by rw [← hk, hat, h2]; rfl⟩, by omega, .inr ⟨[], ⟨rfl, rfl⟩, rfl, rfl, rfl, rfl, rfl, sint (wrap_nat k (by simp only [big] at hl; omega)), trivial⟩⟩
  · have hge : xs.length ≤ k := by simp at h1; omega
    exact fin1 (dbool (by rw [← hk, eqL_end hge (by omega)]))

theorem Mt.atRow {l : List (Mt)} {k : Nat} {K : List D → Prop} (h : k < l.length) (c : K [.str l[k].name, .sl (l[k].body.map St.c), .int .i64 l[k].pl]) : PIdx (l.map Mt.c) (k : Int) K := PIdx.map (get_at h) (by
  have e : Mt.c l[k] = [.str l[k].name, .sl (l[k].body.map St.c), .int .i64 l[k].pl] := rfl
  rw [e]; exact c)
theorem eqfMt_c (g : FuncId) (p : Mt → Mt → Bool) (xs ys : List (Mt)) (h : ∀ a ∈ xs, ∀ b ∈ ys, PFun Tryz.prog g [Mt.v a, Mt.v b] [] (.d (.bool (p a b))) []) (hl : xs.length < big) :
    PFun Tryz.prog 71 [.d (.sl (xs.map Mt.c)), .d (.sl (ys.map Mt.c)), .fn (.func g) [] []] [] (.d (.bool (eqL p xs ys))) [] := by
  refine fn_sem pok 32 0 Tryz.func71 (by kernel_rfl) rfl rfl rfl rfl ?_
  refine SWp.go pok (by kernel_rfl) ?_
  by_cases hlen : xs.length = ys.length
  case neg =>
    refine brP_true (by simp; omega) ?_
    exact fin1 (dbool (eqL_len hlen).symm)
  refine brP_false (by simp; omega) ?_
  refine SWp.loop (fun k : Nat => k ≤ xs.length ∧ eqL p (xs.drop k) (ys.drop k) = eqL p xs ys) (fun k => ([(1, .d (.sl (ys.map Mt.c))), (2, .fn (.func g) [] []), (15, .d (.sl (xs.map Mt.c))), (16, iv (xs.map Mt.c).length), (17, iv k)], [])) (fun k => xs.length - k) 0 ⟨Nat.zero_le _, rfl⟩ (Le.same ⟨rfl, rfl, rfl, rfl, rfl, trivial⟩) (fun k hk => ?_)
  obtain ⟨hkl, hk⟩ := hk
  refine SWp.go pok (by kernel_rfl) ?_
  refine brP_split (fun h1 => ?_) (fun h1 => ?_)
  · have hlt : k < xs.length := by simpa using h1
    have hlt' : k < ys.length := by omega
    have hat := eqL_at (p := p) hlt hlt'
    refine Mt.atRow hlt ?_
    refine Mt.atRow hlt' ?_
    refine PFun.call (h xs[k] (List.getElem_mem hlt) ys[k] (List.getElem_mem hlt')) ?_
    refine brP_split (fun h2 => ?_) (fun h2 => ?_)
    · have h2 : p xs[k] ys[k] = false := by simpa using h2
      exact fin1 (dbool (by rw [← hk, hat, h2]; rfl))
    · have h2 : p xs[k] ys[k] = true := by simpa using h2
      exact ⟨k + 1, ⟨hlt, by rw [← hk, hat, h2]; rfl⟩, by omega, .inr ⟨[], ⟨rfl, rfl⟩, rfl, rfl, rfl, rfl, rfl, sint (wrap_nat k (by simp only [big] at hl; omega)), trivial⟩⟩
  · have hge : xs.length ≤ k := by simp at h1; omega
    exact fin1 (dbool (by rw [← hk, eqL_end hge (by omega)]))

theorem Mo.atRow {l : List (Mo)} {k : Nat} {K : List D → Prop} (h : k < l.length) (c : K [.str l[k].name, .sl (l[k].vars.map Vr.c), .sl (l[k].methods.map Mt.c), .int .i64 l[k].pl]) : PIdx (l.map Mo.c) (k : Int) K := PIdx.map (get_at h) (by
  have e : Mo.c l[k] = [.str l[k].name, .sl (l[k].vars.map Vr.c), .sl (l[k].methods.map Mt.c), .int .i64 l[k].pl] := rfl
  rw [e]; exact c)
theorem eqfMo_c (g : FuncId) (p : Mo → Mo → Bool) (xs ys : List (Mo)) (h : ∀ a ∈ xs, ∀ b ∈ ys, PFun Tryz.prog g [Mo.v a, Mo.v b] [] (.d (.bool (p a b))) []) (hl : xs.length < big) :
    PFun Tryz.prog 36 [.d (.sl (xs.map Mo.c)), .d (.sl (ys.map Mo.c)), .fn (.func g) [] []] [] (.d (.bool (eqL p xs ys))) [] := by
  refine fn_sem pok 32 0 Tryz.func36 (by kernel_rfl) rfl rfl rfl rfl ?_
  refine SWp.go pok (by kernel_rfl) ?_
  by_cases hlen : xs.length = ys.length
  case neg =>
    refine brP_true (by simp; omega) ?_
    exact fin1 (dbool (eqL_len hlen).symm)
  refine brP_false (by simp; omega) ?_
  refine SWp.loop (fun k : Nat => k ≤ xs.length ∧ eqL p (xs.drop k) (ys.drop k) = eqL p xs ys) (fun k => ([(1, .d (.sl (ys.map Mo.c))), (2, .fn (.func g) [] []), (15, .d (.sl (xs.map Mo.c))), (16, iv (xs.map Mo.c).length), (17, iv k)], [])) (fun k => xs.length - k) 0 ⟨Nat.zero_le _, rfl⟩ (Le.same ⟨rfl, rfl, rfl, rfl, rfl, trivial⟩) (fun k hk => ?_)
  obtain ⟨hkl, hk⟩ := hk
  refine SWp.go pok (by kernel_rfl) ?_
  refine brP_split (fun h1 => ?_) (fun h1 => ?_)
  · have hlt : k < xs.length := by simpa using h1
    have hlt' : k < ys.length := by omega
    have hat := eqL_at (p := p) hlt hlt'
    refine Mo.atRow hlt ?_
    refine Mo.atRow hlt' ?_
    refine PFun.call (h xs[k] (List.getElem_mem hlt) ys[k] (List.getElem_mem hlt')) ?_
    refine brP_split (fun h2 => ?_) (fun h2 => ?_)
    · have h2 : p xs[k] ys[k] = false := by simpa using h2
      exact fin1 (dbool (by rw [← hk, hat, h2]; rfl))
    · have h2 : p xs[k] ys[k] = true := by simpa using h2
      exact ⟨k + 1, ⟨hlt, by rw [← hk, hat, h2]; rfl⟩, by omega, .inr ⟨[], ⟨rfl, rfl⟩, rfl, rfl, rfl, rfl, rfl, sint (wrap_nat k (by simp only [big] at hl; omega)), trivial⟩⟩
  · have hge : xs.length ≤ k := by simp at h1; omega
    exact fin1 (dbool (by rw [← hk, eqL_end hge (by omega)]))

theorem Ro.atRow {l : List (Ro)} {k : Nat} {K : List D → Prop} (h : k < l.length) (c : K [.str l[k].name, .bool l[k].star, .int .i64 l[k].count, .sl (l[k].body.map St.c), .int .i64 l[k].pl]) : PIdx (l.map Ro.c) (k : Int) K := PIdx.map (get_at h) (by
  have e : Ro.c l[k] = [.str l[k].name, .bool l[k].star, .int .i64 l[k].count, .sl (l[k].body.map St.c), .int .i64 l[k].pl] := rfl
  rw [e]; exact c)
theorem eqfRo_c (g : FuncId) (p : Ro → Ro → Bool) (xs ys : List (Ro)) (h : ∀ a ∈ xs, ∀ b ∈ ys, PFun Tryz.prog g [Ro.v a, Ro.v b] [] (.d (.bool (p a b))) []) (hl : xs.length < big) :
    PFun Tryz.prog 38 [.d (.sl (xs.map Ro.c)), .d (.sl (ys.map Ro.c)), .fn (.func g) [] []] [] (.d (.bool (eqL p xs ys))) [] := by
  refine fn_sem pok 32 0 Tryz.func38 (by kernel_rfl) rfl rfl rfl rfl ?_
  refine SWp.go pok (by kernel_rfl) ?_
  by_cases hlen : xs.length = ys.length
  case neg =>
    refine brP_true (by simp; omega) ?_
    exact fin1 (dbool (eqL_len hlen).symm)
  refine brP_false (by simp; omega) ?_
  refine SWp.loop (fun k : Nat => k ≤ xs.length ∧ eqL p (xs.drop k) (ys.drop k) = eqL p xs ys) (fun k => ([(1, .d (.sl (ys.map Ro.c))), (2, .fn (.func g) [] []), (15, .d (.sl (xs.map Ro.c))), (16, iv (xs.map Ro.c).length), (17, iv k)], [])) (fun k => xs.length - k) 0 ⟨Nat.zero_le _, rfl⟩ (Le.same ⟨rfl, rfl, rfl, rfl, rfl, trivial⟩) (fun k hk => ?_)
  obtain ⟨hkl, hk⟩ := hk
  refine SWp.go pok (by kernel_rfl) ?_
  refine brP_split (fun h1 => ?_) (fun h1 => ?_)
  · have hlt : k < xs.length := by simpa using h1
    have hlt' : k < ys.length := by omega
    have hat := eqL_at (p := p) hlt hlt'
    refine Ro.atRow hlt ?_
    refine Ro.atRow hlt' ?_
    refine PFun.call (h xs[k] (List.getElem_mem hlt) ys[k] (List.getElem_mem hlt')) ?_
    refine brP_split (fun h2 => ?_) (fun h2 => ?_)
    · have h2 : p xs[k] ys[k] = false := by simpa using h2
      exact fin1 (dbool (by rw [← hk, hat, h2]; rfl))
    · have h2 : p xs[k] ys[k] = true := by simpa using h2
      exact ⟨k + 1, ⟨hlt, by rw [← hk, hat, h2]; rfl⟩, by omega, .inr ⟨[], ⟨rfl, rfl⟩, rfl, rfl, rfl, rfl, rfl, sint (wrap_nat k (by simp only [big] at hl; omega)), trivial⟩⟩
  · have hge : xs.length ≤ k := by simp at h1; omega
    exact fin1 (dbool (by rw [← hk, eqL_end hge (by omega)]))


theorem sameExpr_c {a : Ex} (ha : a.Fit) : ∀ {b : Ex}, b.Fit → PFun Tryz.prog 143 [a.v, b.v] [] (.d (.bool (a.same b))) [] := by
  induction ha with
  | @mk op mon name n kids pl h k ih =>
    intro b hb
    cases hb with
    | @mk op' mon' name' n' kids' pl' h' k' =>
    rw [Ex.same_eq]
    refine fn_sem pok 38 0 Tryz.func143 (by kernel_rfl) rfl rfl rfl rfl ?_
    refine SWp.go pok (by kernel_rfl) ?_
    dsimp only
    by_cases e1 : (op == op') = true
    case neg =>
      rw [Bool.not_eq_true] at e1
      repeat refine brP_false e1 ?_
      exact fin1 (dbool (by rw [e1]; rfl))
    repeat refine brP_true e1 ?_
    by_cases e2 : (mon == mon') = true
    case neg =>
      rw [Bool.not_eq_true] at e2
      repeat refine brP_false e2 ?_
      exact fin1 (dbool (by rw [e1, e2]; rfl))
    repeat refine brP_true e2 ?_
    by_cases e3 : (name == name') = true
    case neg =>
      rw [Bool.not_eq_true] at e3
      repeat refine brP_false e3 ?_
      exact fin1 (dbool (by rw [e1, e2, e3]; rfl))
    repeat refine brP_true e3 ?_
    by_cases e4 : (n == n') = true
    case neg =>
      rw [Bool.not_eq_true] at e4
      repeat refine brP_false e4 ?_
      exact fin1 (dbool (by rw [e1, e2, e3, e4]; rfl))
    repeat refine brP_true e4 ?_
    refine PFun.call (eqfEx_c _ Ex.same kids kids' (fun x hx y hy => ih x hx (k' y hy)) h) ?_
    exact fin1 (dbool (by rw [e1, e2, e3, e4]; rfl))
theorem sameStmt_c {a : St} (ha : a.Fit) : ∀ {b : St}, b.Fit → PFun Tryz.prog 114 [a.v, b.v] [] (.d (.bool (a.same b))) [] := by
  induction ha with
  | @mk kind mon name n e blocks pl he h hb k ih =>
    intro b hb'
    cases hb' with
    | @mk kind' mon' name' n' e' blocks' pl' he' h' hb2 k' =>
    rw [St.same_eq]
    have stmts : ∀ x ∈ blocks, ∀ y ∈ blocks', PFun Tryz.prog 73 [.d (.sl (x.map St.c)), .d (.sl (y.map St.c))] [] (.d (.bool (eqL St.same x y))) [] := fun x hx y hy => by
      refine fn_sem pok 8 0 Tryz.func73 (by kernel_rfl) rfl rfl rfl rfl ?_
      refine SWp.go pok (by kernel_rfl) ?_
      refine PFun.call (eqfSt_c _ St.same x y (fun u hu v hv => ih x hx u hu (k' y hy v hv)) (hb x hx)) ?_
      exact fin1 rfl
    refine fn_sem pok 45 0 Tryz.func114 (by kernel_rfl) rfl rfl rfl rfl ?_
    refine SWp.go pok (by kernel_rfl) ?_
    dsimp only
    by_cases e1 : (kind == kind') = true
    case neg =>
      rw [Bool.not_eq_true] at e1
      repeat refine brP_false e1 ?_
      exact fin1 (dbool (by rw [e1]; rfl))
    repeat refine brP_true e1 ?_
    by_cases e2 : (mon == mon') = true
    case neg =>
      rw [Bool.not_eq_true] at e2
      repeat refine brP_false e2 ?_
      exact fin1 (dbool (by rw [e1, e2]; rfl))
    repeat refine brP_true e2 ?_
    by_cases e3 : (name == name') = true
    case neg =>
      rw [Bool.not_eq_true] at e3
      repeat refine brP_false e3 ?_
      exact fin1 (dbool (by rw [e1, e2, e3]; rfl))
    repeat refine brP_true e3 ?_
    by_cases e4 : (n == n') = true
    case neg =>
      rw [Bool.not_eq_true] at e4
      repeat refine brP_false e4 ?_
      exact fin1 (dbool (by rw [e1, e2, e3, e4]; rfl))
    repeat refine brP_true e4 ?_
    refine PFun.call (sameExpr_c he he') ?_
    by_cases e5 : e.same e' = true
    case neg =>
      rw [Bool.not_eq_true] at e5
      repeat refine brP_false e5 ?_
      exact fin1 (dbool (by rw [e1, e2, e3, e4, e5]; rfl))
    repeat refine brP_true e5 ?_
    refine PFun.call (eqfBl_c _ (eqL St.same) blocks blocks' stmts h) ?_
    repeat refine brP_true e5 ?_
    exact fin1 (dbool (by rw [e1, e2, e3, e4, e5]; rfl))
theorem sameStmts_c {x y : List St} (hx : Bd x) (hy : Bd y) : PFun Tryz.prog 73 [.d (.sl (x.map St.c)), .d (.sl (y.map St.c))] [] (.d (.bool (eqL St.same x y))) [] := by
  refine fn_sem pok 8 0 Tryz.func73 (by kernel_rfl) rfl rfl rfl rfl ?_
  refine SWp.go pok (by kernel_rfl) ?_
  refine PFun.call (eqfSt_c _ St.same x y (fun u hu v hv => sameStmt_c (hx.fit u hu) (hy.fit v hv)) hx.len) ?_
  exact fin1 rfl
theorem sameVar_c (a b : Vr) : PFun Tryz.prog 70 [a.v, b.v] [] (.d (.bool (a.same b))) [] := by
  refine fn_sem pok 10 0 Tryz.func70 (by kernel_rfl) rfl rfl rfl rfl ?_
  refine SWp.go pok (by kernel_rfl) ?_
  have e0 : ∀ q : Bool, (a.name == b.name && (a.type == b.type && (a.lo == b.lo && (a.hi == b.hi && (a.init == b.init && ((0 : Int) == 0 && true)))))) = q → q = a.same b := fun q h => by
    rw [← h]; simp [Vr.same, Bool.and_assoc]
  refine brP_split (fun h => ?_) (fun h => ?_)
  · exact fin1 (dbool (e0 _ h))
  · exact fin1 (dbool (e0 _ h))
theorem sameMethod_c (a b : Mt) (ha : Bd a.body) (hb : Bd b.body) : PFun Tryz.prog 72 [a.v, b.v] [] (.d (.bool (a.same b))) [] := by
  unfold Mt.same
  refine fn_sem pok 17 0 Tryz.func72 (by kernel_rfl) rfl rfl rfl rfl ?_
  refine SWp.go pok (by kernel_rfl) ?_
  by_cases e1 : (a.name == b.name) = true
  case neg =>
    rw [Bool.not_eq_true] at e1
    repeat refine brP_false e1 ?_
    exact fin1 (dbool (by rw [e1]; rfl))
  repeat refine brP_true e1 ?_
  refine PFun.call (sameStmts_c ha hb) ?_
  exact fin1 (dbool (by rw [e1]; rfl))
theorem sameRole_c (a b : Ro) (ha : Bd a.body) (hb : Bd b.body) : PFun Tryz.prog 39 [a.v, b.v] [] (.d (.bool (a.same b))) [] := by
  unfold Ro.same
  refine fn_sem pok 31 0 Tryz.func39 (by kernel_rfl) rfl rfl rfl rfl ?_
  refine SWp.go pok (by kernel_rfl) ?_
  by_cases e1 : (a.name == b.name) = true
  case neg =>
    rw [Bool.not_eq_true] at e1
    repeat refine brP_false e1 ?_
    exact fin1 (dbool (by rw [e1]; rfl))
  repeat refine brP_true e1 ?_
  by_cases e2 : (a.star == b.star) = true
  case neg =>
    rw [Bool.not_eq_true] at e2
    repeat refine brP_false e2 ?_
    exact fin1 (dbool (by rw [e1, e2]; rfl))
  repeat refine brP_true e2 ?_
  by_cases e3 : (a.count == b.count) = true
  case neg =>
    rw [Bool.not_eq_true] at e3
    repeat refine brP_false e3 ?_
    exact fin1 (dbool (by rw [e1, e2, e3]; rfl))
  repeat refine brP_true e3 ?_
  refine PFun.call (sameStmts_c ha hb) ?_
  exact fin1 (dbool (by rw [e1, e2, e3]; rfl))
theorem sameMonitor_c (a b : Mo) (hv : a.vars.length < big) (hm : a.methods.length < big) (ha : ∀ f ∈ a.methods, Bd f.body) (hb : ∀ f ∈ b.methods, Bd f.body) : PFun Tryz.prog 37 [a.v, b.v] [] (.d (.bool (a.same b))) [] := by
  unfold Mo.same
  refine fn_sem pok 24 0 Tryz.func37 (by kernel_rfl) rfl rfl rfl rfl ?_
  refine SWp.go pok (by kernel_rfl) ?_
  by_cases e1 : (a.name == b.name) = true
  case neg =>
    rw [Bool.not_eq_true] at e1
    repeat refine brP_false e1 ?_
    exact fin1 (dbool (by rw [e1]; rfl))
  repeat refine brP_true e1 ?_
  refine PFun.call (eqfVr_c _ Vr.same a.vars b.vars (fun x _ y _ => sameVar_c x y) hv) ?_
  by_cases e2 : eqL Vr.same a.vars b.vars = true
  case neg =>
    rw [Bool.not_eq_true] at e2
    repeat refine brP_false e2 ?_
    exact fin1 (dbool (by rw [e1, e2]; rfl))
  repeat refine brP_true e2 ?_
  refine PFun.call (eqfMt_c _ Mt.same a.methods b.methods (fun x hx y hy => sameMethod_c x y (ha x hx) (hb y hy)) hm) ?_
  repeat refine brP_true e2 ?_
  exact fin1 (dbool (by rw [e1, e2]; rfl))
theorem same_c (p q : Pg) (hp : p.Fit) (hq : q.Fit) : PFun Tryz.prog 15 [p.v, q.v] [] (.d (.bool (p.same q))) [] := by
  unfold Pg.same
  refine fn_sem pok 17 0 Tryz.func15 (by kernel_rfl) rfl rfl rfl rfl ?_
  refine SWp.go pok (by kernel_rfl) ?_
  refine PFun.call (eqfMo_c _ Mo.same p.mons q.mons (fun x hx y hy => sameMonitor_c x y (hp.vars x hx) (hp.meths x hx) (hp.body x hx) (hq.body y hy)) hp.mons) ?_
  by_cases e1 : eqL Mo.same p.mons q.mons = true
  case neg =>
    rw [Bool.not_eq_true] at e1
    repeat refine brP_false e1 ?_
    exact fin1 (dbool (by rw [e1]; rfl))
  repeat refine brP_true e1 ?_
  refine PFun.call (eqfRo_c _ Ro.same p.roles q.roles (fun x hx y hy => sameRole_c x y (hp.rbody x hx) (hq.rbody y hy)) hp.roles) ?_
  repeat refine brP_true e1 ?_
  exact fin1 (dbool (by rw [e1]; rfl))
end Go.Proofs.YtmflfcbebeikcaaGreatDoor.Q

namespace Go.Proofs.YtmflfcbebeikcaaGreatDoor.Q
open Go.RowKit
variable [Amb]
theorem fit0 {op : Int} {mon name : Str} {n pl : Int} : Ex.Fit ⟨op, mon, name, n, [], pl⟩ := .mk (by decide) (by simp)
theorem fit1 {op : Int} {mon name : Str} {n pl : Int} {x : Ex} (h : x.Fit) : Ex.Fit ⟨op, mon, name, n, [x], pl⟩ := .mk (by show 1 < big; decide) (fun y hy => by simp at hy; rw [hy]; exact h)
theorem fit2 {op : Int} {mon name : Str} {n pl : Int} {x z : Ex} (h : x.Fit) (g : z.Fit) : Ex.Fit ⟨op, mon, name, n, [x, z], pl⟩ := .mk (by show 2 < big; decide) (fun y hy => by simp at hy; rcases hy with rfl | rfl; exact h; exact g)
theorem exprF_fit (f : Nat) : (∀ lv r, (binF f lv r).1.Fit) ∧ (∀ lv e r, e.Fit → (loopF f lv e r).1.Fit) ∧ (∀ r, (termF f r).1.Fit) := by
  induction f with
  | zero => exact ⟨fun lv r => by rw [binF]; exact fit0, fun lv e r h => by rw [loopF]; exact h, fun r => by rw [termF]; exact fit0⟩
  | succ f ih =>
    obtain ⟨i1, i2, i3⟩ := ih
    refine ⟨fun lv r => ?_, fun lv e r h => ?_, fun r => ?_⟩
    · rw [binF]
      split
      · exact i3 r
      split
      · exact fit1 (i1 _ _)
      · exact i2 _ _ _ (i1 _ _)
    · rw [loopF]
      split
      · split
        · exact fit2 h (i1 _ _)
        · exact i2 _ _ _ (fit2 h (i1 _ _))
      · exact h
    · rw [termF]
      split
      · split
        · exact fit1 (i3 _)
        · exact fit0
      split
      · exact fit0
      split
      · exact fit1 (i3 _)
      split
      · exact i1 _ _
      split
      · exact fit0
      split
      · exact fit0
      · exact fit0
theorem expr_fit (r : Rd) : r.expr.1.Fit := (exprF_fit _).1 0 r
theorem ex0_fit : ex0.Fit := fit0
theorem stf {kind : Int} {mon name : Str} {n : Int} {e : Ex} {pl : Int} {blocks : List (List St)} (he : e.Fit) (h : blocks.length < big) (hb : ∀ b ∈ blocks, Bd b) : St.Fit ⟨kind, mon, name, n, e, blocks, pl⟩ := .mk he h (fun b hb' => (hb b hb').len) (fun b hb' => (hb b hb').fit)
theorem st_leaf {kind : Int} {mon name : Str} {n : Int} {e : Ex} {pl : Int} (he : e.Fit) : St.Fit ⟨kind, mon, name, n, e, [], pl⟩ := stf he (by decide) (by simp)
theorem simple_fit (r : Rd) (k pl : Int) : (r.simple k pl).1.Fit := by
  unfold Rd.simple
  split
  · exact st_leaf ex0_fit
  split
  · exact st_leaf ex0_fit
  split
  · exact st_leaf ex0_fit
  · exact st_leaf ex0_fit
theorem set_fit (r : Rd) : r.set_.1.Fit := st_leaf (expr_fit _)
theorem head_fit (r : Rd) (k : Int) : (r.head k).1.2.Fit := by
  unfold Rd.head
  split
  · exact expr_fit _
  split
  · exact ex0_fit
  · exact ex0_fit
theorem bd_nil : Bd [] := ⟨by decide, by simp⟩
theorem stmtF_fit (f : Nat) : f + 5 < big → (∀ r, (stmtF f r).1.Fit) ∧ (∀ k pl r, (compF f k pl r).1.Fit) ∧ (∀ l r, l.length + f < big → (∀ b ∈ l, Bd b) → (orF f l r).1.length < big ∧ ∀ b ∈ (orF f l r).1, Bd b) ∧ (∀ r, Bd (blockF f r).1) ∧ (∀ l r, l.length + f < big → (∀ y ∈ l, St.Fit y) → Bd (stmtsF f l r).1) := by
  induction f with
  | zero => exact fun _ => ⟨fun r => by rw [stmtF]; exact st_leaf ex0_fit, fun k pl r => by rw [compF]; exact st_leaf ex0_fit, fun l r h g => by rw [orF]; exact ⟨h, g⟩, fun r => by rw [blockF]; exact bd_nil, fun l r h g => by rw [stmtsF]; exact ⟨h, g⟩⟩
  | succ f ih =>
    intro hf
    obtain ⟨i1, i2, i3, i4, i5⟩ := ih (by omega)
    refine ⟨fun r => ?_, fun k pl r => ?_, fun l r h g => ?_, fun r => ?_, fun l r h g => ?_⟩
    · rw [stmtF]
      split
      · exact set_fit _
      split
      · exact st_leaf ex0_fit
      split
      · exact i2 _ _ _
      · exact simple_fit _ _ _
    · rw [compF]
      split
      · split
        · exact stf (head_fit _ _) (by show 2 < big; decide) (fun b hb => by simp at hb; rcases hb with rfl | rfl <;> exact i4 _)
        · exact stf (head_fit _ _) (by show 1 < big; decide) (fun b hb => by simp at hb; rw [hb]; exact i4 _)
      split
      · obtain ⟨h1, h2⟩ := i3 [(blockF f (r.head k).2).1] (blockF f (r.head k).2).2 (by show 1 + f < big; omega) (fun b hb => by simp at hb; rw [hb]; exact i4 _)
        exact stf (head_fit _ _) h1 h2
      · exact stf (head_fit _ _) (by show 1 < big; decide) (fun b hb => by simp at hb; rw [hb]; exact i4 _)
    · rw [orF]
      split
      · refine i3 _ _ (by rw [List.length_append, List.length_singleton]; omega) (fun b hb => ?_)
        rcases List.mem_append.1 hb with h1 | h1
        · exact g b h1
        · rw [List.mem_singleton.1 h1]; exact i4 _
      · exact ⟨by show l.length < big; omega, g⟩
    · rw [blockF]
      split
      · exact i5 [] _ (by show 0 + f < big; omega) (by simp)
      · exact bd_nil
    · rw [stmtsF]
      split
      · refine i5 _ _ (by rw [List.length_append, List.length_singleton]; omega) (fun b hb => ?_)
        rcases List.mem_append.1 hb with h1 | h1
        · exact g b h1
        · rw [List.mem_singleton.1 h1]; exact i1 _
      · exact ⟨by show l.length < big; omega, g⟩
/-- Not more tokens than a text has. -/
def Few (r : Rd) : Prop := r.toks.length ≤ 30000
theorem few_stable : Stable Few where
  take := fun {r} h => by
    unfold Rd.take
    split
    · show r.toks.tail.length ≤ 30000
      rw [List.length_tail]; unfold Few at h; omega
    · exact h
  fail := fun {r e} h he => by
    unfold Rd.fail
    split
    · exact h
    · exact h
  more := fun {r n} h => h
  set := fun {r r'} h h' _ _ => h'
theorem few_m {r : Rd} (h : Few r) : r.m ≤ 30000 := by
  unfold Rd.m
  split
  · exact h
  · omega
theorem block_fit {r : Rd} (h : Few r) : Bd r.block.1 := (stmtF_fit (8 * r.m + 3) (by have := few_m h; show _ < 1099511627776; omega)).2.2.2.1 r
theorem varsF_len (f : Nat) : ∀ (l : List Vr) (r : Rd), (varsF f l r).1.length ≤ l.length + f := by
  induction f with
  | zero => intro l r; rw [varsF]; exact Nat.le_refl _
  | succ f ih =>
    intro l r
    rw [varsF]
    split
    · have := ih (l ++ [(r.room l.length 16).take.var.1]) (r.room l.length 16).take.var.2
      rw [List.length_append, List.length_singleton] at this
      omega
    · show l.length ≤ _; omega
theorem methsF_fit (f : Nat) : ∀ (l : List Mt) (r : Rd), Few r → (∀ x ∈ l, Bd x.body) → (methsF f l r).1.length ≤ l.length + f ∧ ∀ x ∈ (methsF f l r).1, Bd x.body := by
  induction f with
  | zero => intro l r h g; rw [methsF]; exact ⟨Nat.le_refl _, g⟩
  | succ f ih =>
    intro l r h g
    rw [methsF]
    split
    · have h1 : Few (r.room l.length 16).take := few_stable.take (few_stable.room h)
      have := ih (l ++ [(r.room l.length 16).take.meth.1]) (r.room l.length 16).take.meth.2 (few_stable.meth h1) (fun x hx => by
        rcases List.mem_append.1 hx with hx | hx
        · exact g x hx
        · rw [List.mem_singleton.1 hx]; exact block_fit (few_stable.name h1))
      rw [List.length_append, List.length_singleton] at this
      exact ⟨by omega, this.2⟩
    · exact ⟨by show l.length ≤ _; omega, g⟩
def Mo.Fit (m : Mo) : Prop := m.vars.length < big ∧ m.methods.length < big ∧ ∀ f ∈ m.methods, Bd f.body
theorem few_vars {r : Rd} (h : Few r) : Few r.vars.2 := few_stable.varsF _ _ _ h
theorem mon_fit {r : Rd} (h : Few r) : r.mon.1.Fit := by
  unfold Rd.mon
  split
  · have h1 : Few r.name.2.enter := few_stable.enter (few_stable.name h)
    have h2 := few_vars h1
    have a := varsF_len (r.name.2.enter.m + 1) [] r.name.2.enter
    have b := methsF_fit (r.name.2.enter.vars.2.m + 1) [] r.name.2.enter.vars.2 h2 (by simp)
    have m1 := few_m h1
    have m2 := few_m h2
    refine ⟨?_, ?_, b.2⟩
    · show (varsF (r.name.2.enter.m + 1) [] r.name.2.enter).1.length < 1099511627776
      simp only [List.length_nil] at a; omega
    · show (methsF (r.name.2.enter.vars.2.m + 1) [] r.name.2.enter.vars.2).1.length < 1099511627776
      have b1 := b.1
      simp only [List.length_nil] at b1; omega
  · exact ⟨by show 0 < big; decide, by show 0 < big; decide, by simp⟩
theorem progF_fit (f : Nat) : ∀ (l : List Mo) (k : List Ro) (r : Rd), Few r → (∀ x ∈ l, x.Fit) → (∀ x ∈ k, Bd x.body) → (progF f l k r).1.1.length ≤ l.length + f ∧ (progF f l k r).1.2.length ≤ k.length + f ∧ (∀ x ∈ (progF f l k r).1.1, x.Fit) ∧ ∀ x ∈ (progF f l k r).1.2, Bd x.body := by
  induction f with
  | zero => intro l k r h g1 g2; rw [progF]; exact ⟨Nat.le_refl _, Nat.le_refl _, g1, g2⟩
  | succ f ih =>
    intro l k r h g1 g2
    rw [progF]
    split
    · split
      · have h1 : Few (r.room l.length 8).take := few_stable.take (few_stable.room h)
        have := ih (l ++ [(r.room l.length 8).take.mon.1]) k (r.room l.length 8).take.mon.2 (few_stable.mon h1) (fun x hx => by
          rcases List.mem_append.1 hx with hx | hx
          · exact g1 x hx
          · rw [List.mem_singleton.1 hx]; exact mon_fit h1) g2
        rw [List.length_append, List.length_singleton] at this
        exact ⟨by omega, by omega, this.2.2⟩
      split
      · have h1 : Few (r.room k.length 8).take := few_stable.take (few_stable.room h)
        have := ih l (k ++ [(r.room k.length 8).take.role.1]) (r.room k.length 8).take.role.2 (few_stable.role h1) g1 (fun x hx => by
          rcases List.mem_append.1 hx with hx | hx
          · exact g2 x hx
          · rw [List.mem_singleton.1 hx]; exact block_fit (few_stable.cnt (few_stable.name h1)))
        rw [List.length_append, List.length_singleton] at this
        exact ⟨by omega, by omega, this.2.2⟩
      · have := ih l k (r.fail 40) (few_stable.fail h (by decide)) g1 g2
        exact ⟨by omega, by omega, this.2.2⟩
    · exact ⟨by show l.length ≤ _; omega, by show k.length ≤ _; omega, g1, g2⟩
theorem prog_fit {r : Rd} (h : Few r) : Pg.Fit ⟨r.prog.1.1, r.prog.1.2⟩ := by
  obtain ⟨a, b, c, d⟩ := progF_fit (r.m + 1) [] [] r h (by simp) (by simp)
  have m1 := few_m h
  simp only [List.length_nil] at a b
  exact ⟨by show (progF (r.m + 1) [] [] r).1.1.length < 1099511627776; omega, by show (progF (r.m + 1) [] [] r).1.2.length < 1099511627776; omega, fun m hm => (c m hm).1, fun m hm => (c m hm).2.1, fun m hm => (c m hm).2.2, d⟩
/-! ### the same but for places -/
variable {σ : Int → Int}
mutual
theorem Ex.same_ren : ∀ e : Ex, e.same (e.ren σ) = true
  | ⟨op, mon, name, n, kids, pl⟩ => by rw [Ex.ren, Ex.same, Ex.sames_ren kids]; simp
theorem Ex.sames_ren : ∀ l : List Ex, Ex.sames l (Ex.rens σ l) = true
  | [] => by rw [Ex.rens, Ex.sames]
  | a :: l => by rw [Ex.rens, Ex.sames, Ex.same_ren a, Ex.sames_ren l]; rfl
end
mutual
theorem St.same_ren : ∀ e : St, e.same (e.ren σ) = true
  | ⟨kind, mon, name, n, e, blocks, pl⟩ => by rw [St.ren, St.same, Ex.same_ren e, St.sameB_ren blocks]; simp
theorem St.sameL_ren : ∀ l : List St, St.sameL l (St.renL σ l) = true
  | [] => by rw [St.renL, St.sameL]
  | a :: l => by rw [St.renL, St.sameL, St.same_ren a, St.sameL_ren l]; rfl
theorem St.sameB_ren : ∀ l : List (List St), St.sameB l (St.renB σ l) = true
  | [] => by rw [St.renB, St.sameB]
  | a :: l => by rw [St.renB, St.sameB, St.sameL_ren a, St.sameB_ren l]; rfl
end
theorem eqL_map {α : Type} {p : α → α → Bool} {f : α → α} : ∀ {l : List α}, (∀ x ∈ l, p x (f x) = true) → eqL p l (l.map f) = true
  | [], _ => rfl
  | a :: l, h => by rw [List.map_cons, eqL, h a (by simp), eqL_map (fun x hx => h x (by simp [hx]))]; rfl
theorem body_ren (l : List St) : eqL St.same l (l.map (St.ren σ)) = true := eqL_map fun x _ => St.same_ren x
theorem Pg.same_ren (l : List Mo) (k : List Ro) : Pg.same ⟨l, k⟩ ⟨l.map (Mo.ren σ), k.map (Ro.ren σ)⟩ = true := by
  unfold Pg.same
  rw [Bool.and_eq_true]
  constructor
  · refine eqL_map fun m _ => ?_
    unfold Mo.same Mo.ren
    simp only [beq_self_eq_true, Bool.true_and, Bool.and_eq_true]
    refine ⟨eqL_map fun v _ => by simp [Vr.same, Vr.ren], eqL_map fun f _ => ?_⟩
    unfold Mt.same Mt.ren
    simp only [beq_self_eq_true, Bool.true_and]
    exact body_ren _
  · refine eqL_map fun r _ => ?_
    unfold Ro.same Ro.ren
    simp only [beq_self_eq_true, Bool.true_and]
    exact body_ren _
end Go.Proofs.YtmflfcbebeikcaaGreatDoor.Q

namespace Go.Proofs.YtmflfcbebeikcaaGreatDoor.Q
open Go.RowKit
variable [Amb] [Pow]
/-! ### numbers -/
theorem digS_app : ∀ (xs : Str) (m : Int) (b : UInt8), digS m (xs ++ [b]) = (digS m xs).bind fun k => if k > (9223372036854775807 - ((b.toNat : Int) - 48)).tdiv 10 then none else some (10 * k + ((b.toNat : Int) - 48))
  | [], m, b => rfl
  | c :: xs, m, b => by
    rw [List.cons_append, digS, digS]
    split
    · rfl
    · exact digS_app xs _ b
theorem dig_is : ∀ q : Fin 10, isDig ((UInt8.ofNat (48 + q.val)).toNat : Int) = true ∧ (UInt8.ofNat (48 + q.val)).toNat = 48 + q.val := by decide
theorem dec_ne (n : Nat) : Lib.decDigits n ≠ [] := fun e => by
  have h1 := Lib.decDigits_length n
  have h2 := Lib.nDigits_pos n
  rw [e] at h1
  simp at h1; omega
theorem dec_all (n : Nat) : ∀ b ∈ Lib.decDigits n, isDig b.toNat = true := by
  induction n using Nat.strongRecOn with
  | _ n ih =>
    intro b hb
    rw [Lib.decDigits] at hb
    by_cases h : n < 10
    · rw [dif_pos h, List.mem_singleton] at hb
      rw [hb]; exact (dig_is ⟨n, h⟩).1
    · rw [dif_neg h, List.mem_append, List.mem_singleton] at hb
      rcases hb with hb | hb
      · exact ih _ (by omega) b hb
      · rw [hb]; exact (dig_is ⟨n % 10, Nat.mod_lt _ (by decide)⟩).1
theorem spanN_all {p : Int → Bool} : ∀ {l : Str}, (∀ b ∈ l, p b.toNat = true) → spanN p l = l.length
  | [], _ => rfl
  | b :: l, h => by rw [spanN, if_pos (h b List.mem_cons_self), spanN_all fun c hc => h c (List.mem_cons_of_mem _ hc)]; rfl
theorem dec_digS (n : Nat) : n < 9223372036854775808 → digS 0 (Lib.decDigits n) = some (n : Int) := by
  induction n using Nat.strongRecOn with
  | _ n ih =>
    intro hn
    rw [Lib.decDigits]
    by_cases h : n < 10
    · rw [dif_pos h]
      have e := (dig_is ⟨n, h⟩).2
      dsimp only at e
      rw [digS, e, if_neg, digS]
      · congr 1; omega
      · rw [Int.tdiv_eq_ediv_of_nonneg (by omega)]; omega
    · rw [dif_neg h, digS_app, ih (n / 10) (by omega) (by omega)]
      have e := (dig_is ⟨n % 10, Nat.mod_lt _ (by decide)⟩).2
      dsimp only at e
      rw [Option.bind_some, e, if_neg]
      · congr 1; omega
      · rw [Int.tdiv_eq_ediv_of_nonneg (by omega)]; omega
theorem dec_hd (n : Nat) : 0 < n → ∃ b r, Lib.decDigits n = b :: r ∧ b ≠ 48 := by
  induction n using Nat.strongRecOn with
  | _ n ih =>
    intro hn
    rw [Lib.decDigits]
    by_cases h : n < 10
    · rw [dif_pos h]
      refine ⟨_, _, rfl, fun e => ?_⟩
      have := (dig_is ⟨n, h⟩).2
      dsimp only at this
      rw [e] at this
      have h48 : (48 : UInt8).toNat = 48 := rfl
      omega
    · rw [dif_neg h]
      obtain ⟨b, r, e, hb⟩ := ih (n / 10) (by omega) (by omega)
      exact ⟨b, r ++ _, by rw [e]; rfl, hb⟩
theorem dig_class {b : UInt8} (h : isDig b.toNat = true) : classS b.toNat = 4 := by
  unfold isDig at h
  simpa using h
theorem num_tok {n : Nat} (hn : n < 9223372036854775808) : isTok 2 (Lib.decDigits n) n := by
  refine ⟨dec_ne n, ?_⟩
  have hs := spanN_all (dec_all n)
  have hd := dec_digS n hn
  have hh : ¬ ((Lib.decDigits n).headD 0 = 48 ∧ (Lib.decDigits n).length > 1) := fun h => by
    rcases Nat.eq_zero_or_pos n with e | e
    · subst e
      rw [Lib.decDigits_one (by decide)] at h
      exact absurd h.2 (by decide)
    · obtain ⟨b, r, e, hb⟩ := dec_hd n e
      rw [e] at h
      exact hb h.1
  have hc : classS ((Lib.decDigits n).headD 0).toNat = 4 := by
    cases e : Lib.decDigits n with
    | nil => exact absurd e (dec_ne n)
    | cons b r => exact dig_class (dec_all n b (by rw [e]; simp))
  unfold stepT
  rw [hc, if_neg (by decide), if_neg (by decide), if_neg (by decide), if_pos rfl, hs, if_neg hh, List.take_length, hd]
/-! ### what begins a piece, what may stand behind one -/
def noTwo (b : UInt8) : Prop := b ≠ 61 ∧ b ≠ 46 ∧ b ≠ 38 ∧ b ≠ 124
def startOk (w : Str) : Prop := ∃ b r, w = b :: r ∧ noTwo b
theorem startOk.app {w : Str} (h : startOk w) (rest : Str) : startOk (w ++ rest) := by
  obtain ⟨b, r, e, hb⟩ := h
  exact ⟨b, r ++ rest, by rw [e]; rfl, hb⟩
theorem startOk.mk' {b : UInt8} {r : Str} (h : noTwo b) : startOk (b :: r) := ⟨b, r, rfl, h⟩
def endOk (w : Str) : Prop := ∀ b ∈ w.head?, inNameS b.toNat = false ∧ isDig b.toNat = false
theorem endOk_nil : endOk [] := by simp [endOk]
theorem endOk_cons {b : UInt8} {r : Str} (h : inNameS b.toNat = false ∧ isDig b.toNat = false) : endOk (b :: r) := fun c hc => by
  simp at hc; subst hc; exact h
theorem nt_dig {b : UInt8} (h : isDig b.toNat = true) : noTwo b := by
  refine ⟨?_, ?_, ?_, ?_⟩ <;> (rintro rfl; exact absurd h (by decide +kernel))
theorem nt_let {b : UInt8} (h : classS b.toNat = 3) : noTwo b := by
  refine ⟨?_, ?_, ?_, ?_⟩ <;> (rintro rfl; exact absurd h (by decide +kernel))
theorem dec_start (n : Nat) : startOk (Lib.decDigits n) := by
  cases e : Lib.decDigits n with
  | nil => exact absurd e (dec_ne n)
  | cons b r => exact ⟨b, r, rfl, nt_dig (dec_all n b (by rw [e]; simp))⟩
theorem isName_is {s : Str} (h : isName s = true) : s ≠ [] ∧ s.length ≤ 32 ∧ classS (s.headD 0).toNat = 3 ∧ isWord s = false ∧ spanN inNameS s = s.length := by
  unfold isName at h
  simp only [Bool.and_eq_true, Bool.not_eq_true', beq_iff_eq, decide_eq_true_eq, beq_eq_false_iff_ne] at h
  rw [spanF_N] at h
  exact ⟨h.1.1.1.1, h.1.1.1.2, h.1.1.2, h.1.2, by omega⟩
theorem name_tok {s : Str} (h : isName s = true) : isTok 1 s 0 := by
  obtain ⟨h1, h2, h3, h4, h5⟩ := isName_is h
  refine ⟨h1, ?_⟩
  unfold stepT
  rw [h3, if_neg (by decide), if_neg (by decide), if_pos rfl, h5, if_neg (by omega), List.take_length, h4]
  rfl
theorem name_start {s : Str} (h : isName s = true) : startOk s := by
  obtain ⟨h1, h2, h3, h4, h5⟩ := isName_is h
  cases s with
  | nil => exact absurd rfl h1
  | cons b r => exact ⟨b, r, rfl, nt_let h3⟩
/-! ### putting one -/
theorem put_num {n : Nat} (hn : n < 9223372036854775808) {rest : Str} {a : Nat} {us : List Tk} (hf : endOk rest) (g : Lx rest (a + (Lib.decDigits n).length) us) : ∃ t : Tk, t.nu n ∧ Lx (Lib.decDigits n ++ rest) a (t :: us) :=
  ⟨⟨2, Lib.decDigits n, n, a⟩, ⟨rfl, rfl⟩, Lx.put (num_tok hn) (fun b hb => ⟨fun h => by omega, fun _ => (hf b hb).2, fun h => by omega⟩) g⟩
theorem put_name {s : Str} (hs : isName s = true) {rest : Str} {a : Nat} {us : List Tk} (hf : endOk rest) (g : Lx rest (a + s.length) us) : ∃ t : Tk, t.nm s ∧ Lx (s ++ rest) a (t :: us) :=
  ⟨⟨1, s, 0, a⟩, ⟨rfl, rfl⟩, Lx.put (name_tok hs) (fun b hb => ⟨fun _ => (hf b hb).1, fun h => by omega, fun h => by omega⟩) g⟩
theorem put_word {s : Str} (hs : isTok 3 s 0) {rest : Str} {a : Nat} {us : List Tk} (hf : endOk rest) (g : Lx rest (a + s.length) us) : ∃ t : Tk, t.sg s ∧ Lx (s ++ rest) a (t :: us) :=
  ⟨⟨3, s, 0, a⟩, ⟨.inl rfl, rfl⟩, Lx.put hs (fun b hb => ⟨fun _ => (hf b hb).1, fun h => by omega, fun h => by omega⟩) g⟩
theorem twos_snd {x : Str} {b : UInt8} (h : x ++ [b] ∈ twos) (hx : x.length = 1) : b = 61 ∨ b = 46 ∨ b = 38 ∨ b = 124 := by
  match x, hx with
  | [c], _ =>
    simp only [twos, List.cons_append, List.nil_append, List.mem_cons, List.cons.injEq, and_true, List.not_mem_nil, or_false] at h
    rcases h with h | h | h | h | h | h | h <;> simp [h.2]
theorem put_sg {s : Str} (hs : isTok 4 s 0) {rest : Str} {a : Nat} {us : List Tk} (hf : startOk rest) (g : Lx rest (a + s.length) us) : ∃ t : Tk, t.sg s ∧ Lx (s ++ rest) a (t :: us) := by
  obtain ⟨c, r, e, h1, h2, h3, h4⟩ := hf
  refine ⟨⟨4, s, 0, a⟩, ⟨.inr rfl, rfl⟩, Lx.put hs (fun b hb => ⟨fun h => by omega, fun h => by omega, fun _ hx hm => ?_⟩) g⟩
  rw [e] at hb
  simp at hb; subst hb
  rcases twos_snd hm hx with h | h | h | h
  · exact h1 h
  · exact h2 h
  · exact h3 h
  · exact h4 h
/-- A sign behind which all may stand. -/
theorem put_sg' {s : Str} (hs : isTok 4 s 0) (h2 : ∀ b : UInt8, s ++ [b] ∉ twos) {rest : Str} {a : Nat} {us : List Tk} (g : Lx rest (a + s.length) us) : ∃ t : Tk, t.sg s ∧ Lx (s ++ rest) a (t :: us) :=
  ⟨⟨4, s, 0, a⟩, ⟨.inr rfl, rfl⟩, Lx.put hs (fun b hb => ⟨fun h => by omega, fun h => by omega, fun _ hx hm => h2 b hm⟩) g⟩
theorem no_two_of {x : Str} (h : ∀ t ∈ twos, t.head? ≠ x.head?) (hx : x ≠ []) (b : UInt8) : x ++ [b] ∉ twos := fun hm => by
  refine h _ hm ?_
  cases x with
  | nil => exact absurd rfl hx
  | cons c r => rfl
theorem tk_par : isTok 4 [40] 0 := ⟨by decide, by kernel_rfl⟩
theorem tk_rap : isTok 4 [41] 0 := ⟨by decide, by kernel_rfl⟩
theorem tk_not : isTok 4 [33] 0 := ⟨by decide, by kernel_rfl⟩
theorem tk_neg : isTok 4 [45] 0 := ⟨by decide, by kernel_rfl⟩
theorem tk_mul : isTok 4 [42] 0 := ⟨by decide, by kernel_rfl⟩
theorem tk_dot : isTok 4 [46] 0 := ⟨by decide, by kernel_rfl⟩
theorem tk_tru : isTok 3 [116, 114, 117, 101] 0 := ⟨by decide, by kernel_rfl⟩
theorem tk_fls : isTok 3 [102, 97, 108, 115, 101] 0 := ⟨by decide, by kernel_rfl⟩
end Go.Proofs.YtmflfcbebeikcaaGreatDoor.Q

namespace Go.Proofs.YtmflfcbebeikcaaGreatDoor.Q
open Go.RowKit
variable [Amb] [Pow]
/-- A text is scanned to tokens of which an expression is derived. -/
def Spl (L : Nat) (w : Str) (e : Ex) (d : Nat) : Prop := startOk w ∧ ∀ (a : Nat) (rest : Str) (us : List Tk), endOk rest → Lx rest (a + w.length) us → ∃ ts, DE L ts e d ∧ Lx (w ++ rest) a (ts ++ us)
theorem Spl.par {L : Nat} {w : Str} {e : Ex} {d : Nat} (h : Spl 1 w e d) : Spl L ([40] ++ (w ++ [41])) e (d + 1) := by
  refine ⟨.mk' (by unfold noTwo; decide), fun a rest us hr g => ?_⟩
  obtain ⟨u, u1, u2⟩ := put_sg' tk_rap (no_two_of (by decide) (by decide)) (a := a + 1 + w.length) (rest := rest) (us := us) (by
    have : a + 1 + w.length + ([41] : Str).length = a + ([40] ++ (w ++ [41]) : Str).length := by simp; omega
    rw [this]; exact g)
  obtain ⟨ts, t1, t2⟩ := h.2 (a + 1) ([41] ++ rest) (u :: us) (endOk_cons (by decide +kernel)) u2
  obtain ⟨t, k1, k2⟩ := put_sg tk_par (a := a) (h.1.app ([41] ++ rest)) t2
  refine ⟨t :: (ts ++ [u]), .par k1 t1 u1, ?_⟩
  simpa [List.append_assoc] using k2
theorem part_is {e : Ex} (h : PrOk e) : (e.kids.length : Int) = partsS e.op ∧ (e.op = 4 → isName e.mon = true ∧ isName e.name = true) ∧ (e.op ≠ 4 → e.mon = [] ∧ e.name = []) ∧ 0 ≤ e.n ∧ R64 e.n ∧ (e.op ≠ 1 → e.op ≠ 7 → e.n = 0) := by
  have hm : e ∈ e.pre := by rw [e.pre_eq]; simp
  have h1 := h.part e hm
  unfold isPartS at h1
  simp only [Bool.and_eq_true, decide_eq_true_eq, Bool.or_eq_true, beq_iff_eq] at h1
  obtain ⟨⟨h2, h3⟩, h4, h5⟩ := h1
  refine ⟨h2, fun e4 => ?_, fun e4 => ?_, h4, h.num e hm, fun e1 e7 => ?_⟩
  · rw [e4] at h3
    simpa using h3
  · have : (e.op == 4) = false := by simpa using e4
    rw [this] at h3
    simpa using h3
  · rcases h5 with (h5 | h5) | h5
    · exact absurd h5 e1
    · exact absurd h5 e7
    · exact h5
theorem itoa_nn {n : Int} (h : 0 ≤ n) : Lib.itoa n = Lib.decDigits n.toNat := by
  unfold Lib.itoa
  rw [if_neg (by omega)]
/-- A kind with two parts. -/
theorem bin_rule {op : Int} (h1 : 8 ≤ op) (h2 : op ≤ 17) : ∃ rl l r : Nat, (op, rl, signOf op, l, r) ∈ rules ∧ levelS op = rl ∧ leftS op = l ∧ rightS op = r ∧ (1 ≤ l ∧ l ≤ 6 ∧ 1 ≤ r ∧ r ≤ 6) ∧ isTok 4 (signOf op) 0 := by
  have hop : op = 8 ∨ op = 9 ∨ op = 10 ∨ op = 11 ∨ op = 12 ∨ op = 13 ∨ op = 14 ∨ op = 15 ∨ op = 16 ∨ op = 17 := by omega
  rcases hop with rfl | rfl | rfl | rfl | rfl | rfl | rfl | rfl | rfl | rfl
  · exact ⟨5, 5, 6, by decide, rfl, rfl, rfl, by decide, by decide, by kernel_rfl⟩
  · exact ⟨5, 5, 6, by decide, rfl, rfl, rfl, by decide, by decide, by kernel_rfl⟩
  · exact ⟨4, 5, 5, by decide, rfl, rfl, rfl, by decide, by decide, by kernel_rfl⟩
  · exact ⟨4, 5, 5, by decide, rfl, rfl, rfl, by decide, by decide, by kernel_rfl⟩
  · exact ⟨4, 5, 5, by decide, rfl, rfl, rfl, by decide, by decide, by kernel_rfl⟩
  · exact ⟨4, 5, 5, by decide, rfl, rfl, rfl, by decide, by decide, by kernel_rfl⟩
  · exact ⟨4, 5, 5, by decide, rfl, rfl, rfl, by decide, by decide, by kernel_rfl⟩
  · exact ⟨4, 5, 5, by decide, rfl, rfl, rfl, by decide, by decide, by kernel_rfl⟩
  · exact ⟨2, 2, 3, by decide, rfl, rfl, rfl, by decide, by decide, by kernel_rfl⟩
  · exact ⟨1, 1, 2, by decide, rfl, rfl, rfl, by decide, by decide, by kernel_rfl⟩
theorem Spl.app {w : Str} {L : Nat} {e : Ex} {d : Nat} (h : Spl L w e d) {a : Nat} {rest : Str} {us : List Tk} (hr : endOk rest) (g : Lx rest (a + w.length) us) : ∃ ts, DE L ts e d ∧ Lx (w ++ rest) a (ts ++ us) := h.2 a rest us hr g
theorem nt32 : noTwo 32 := by unfold noTwo; decide
theorem bl32 : classS ((32 : UInt8).toNat : Int) = 1 := by kernel_rfl
theorem end32 (r : Str) : endOk (32 :: r) := endOk_cons (by decide +kernel)
theorem len_eq {a b : Nat} {w : Str} {us : List Tk} (g : Lx w a us) (h : a = b) : Lx w b us := h ▸ g
theorem spell_bare (e : Ex) (he : PrOk e) (ih : ∀ y ∈ e.kids, ∀ L : Nat, 1 ≤ L → L ≤ 6 → Spl L (y.pr L) y (y.ns L).toNat) (L : Nat) (hL : ¬ levelS e.op < L) : Spl L e.bare e e.bn.toNat := by
  obtain ⟨hk, hv, hv', hn0, hn, hnz⟩ := part_is he
  have hsh := he.shape
  have hop := he.op
  have hb := fun y (hy : y ∈ e.kids) => ns_bound _ y (Nat.le_refl _) (he.kid hy)
  obtain ⟨op, mon, name, n, kids, pl⟩ := e
  dsimp only at *
  unfold Ex.bare Ex.bn
  have hc : op = 1 ∨ op = 2 ∨ op = 3 ∨ op = 4 ∨ op = 5 ∨ op = 6 ∨ op = 7 ∨ 8 ≤ op := by omega
  have nat : n = (n.toNat : Int) := by omega
  have big : n.toNat < 9223372036854775808 := by have := hn.2; omega
  rcases hc with rfl | rfl | rfl | rfl | rfl | rfl | rfl | hop8
  · obtain ⟨rfl, rfl⟩ := hv' (by decide)
    have : kids = [] := List.eq_nil_of_length_eq_zero (by have : partsS 1 = 0 := rfl; omega)
    subst this
    show Spl L (Lib.itoa n) _ 0
    rw [itoa_nn hn0]
    refine ⟨dec_start _, fun a rest us hr g => ?_⟩
    obtain ⟨t, t1, t2⟩ := put_num big hr g
    exact ⟨[t], .num (by rw [nat]; exact t1), t2⟩
  · obtain ⟨rfl, rfl⟩ := hv' (by decide)
    have : kids = [] := List.eq_nil_of_length_eq_zero (by have : partsS 2 = 0 := rfl; omega)
    subst this
    obtain rfl := hnz (by decide) (by decide)
    refine ⟨.mk' (by unfold noTwo; decide), fun a rest us hr g => ?_⟩
    obtain ⟨t, t1, t2⟩ := put_word tk_tru hr g
    exact ⟨[t], .tru t1, t2⟩
  · obtain ⟨rfl, rfl⟩ := hv' (by decide)
    have : kids = [] := List.eq_nil_of_length_eq_zero (by have : partsS 3 = 0 := rfl; omega)
    subst this
    obtain rfl := hnz (by decide) (by decide)
    refine ⟨.mk' (by unfold noTwo; decide), fun a rest us hr g => ?_⟩
    obtain ⟨t, t1, t2⟩ := put_word tk_fls hr g
    exact ⟨[t], .fls t1, t2⟩
  · obtain ⟨m1, m2⟩ := hv rfl
    have : kids = [] := List.eq_nil_of_length_eq_zero (by have : partsS 4 = 0 := rfl; omega)
    subst this
    obtain rfl := hnz (by decide) (by decide)
    show Spl L (mon ++ ([46] ++ name)) _ 0
    refine ⟨(name_start m1).app _, fun a rest us hr g => ?_⟩
    obtain ⟨v, v1, v2⟩ := put_name m2 (a := a + mon.length + 1) hr (len_eq g (by simp; omega))
    obtain ⟨u, u1, u2⟩ := put_sg tk_dot (a := a + mon.length) ((name_start m2).app rest) v2
    obtain ⟨t, t1, t2⟩ := put_name m1 (a := a) (rest := [46] ++ (name ++ rest)) (endOk_cons (by decide +kernel)) u2
    exact ⟨[t, u, v], .var t1 u1 v1, by simpa [List.append_assoc] using t2⟩
  · obtain ⟨rfl, rfl⟩ := hv' (by decide)
    obtain ⟨x, rfl⟩ := len1 hk (by decide)
    obtain rfl := hnz (by decide) (by decide)
    have hx := ih x (by simp) 3 (by decide) (by decide)
    have hbx := hb x (by simp)
    have e1 : bareK 5 [] [] 0 (Ex.bares [x]) = [33] ++ x.pr (3 : Nat) := by rw [← kid0 x [] ((3 : Nat) : Int)]; rfl
    have e2 : (bnK 5 (Ex.bns [x])).toNat = (x.ns (3 : Nat)).toNat + 1 := by
      rw [Ex.bns, Ex.bns]
      show (1 + x.ns 3).toNat = (x.ns 3).toNat + 1
      unfold Ex.ns atN
      split <;> dsimp only <;> omega
    rw [e1, e2]
    refine ⟨.mk' (by unfold noTwo; decide), fun a rest us hr g => ?_⟩
    obtain ⟨ts, k1, k2⟩ := hx.app (a := a + 1) hr (len_eq g (by simp; omega))
    obtain ⟨t, t1, t2⟩ := put_sg tk_not (a := a) (hx.1.app rest) k2
    have h3 : levelS 5 = 3 := rfl
    exact ⟨t :: ts, .not (by omega) t1 k1, by simpa [List.append_assoc] using t2⟩
  · obtain ⟨rfl, rfl⟩ := hv' (by decide)
    obtain ⟨x, rfl⟩ := len1 hk (by decide)
    obtain rfl := hnz (by decide) (by decide)
    have hx := ih x (by simp) 6 (by decide) (by decide)
    have hbx := hb x (by simp)
    have e1 : bareK 6 [] [] 0 (Ex.bares [x]) = [45] ++ x.pr (6 : Nat) := by rw [← kid0 x [] ((6 : Nat) : Int)]; rfl
    have e2 : (bnK 6 (Ex.bns [x])).toNat = (x.ns (6 : Nat)).toNat + 1 := by
      rw [Ex.bns, Ex.bns]
      show (1 + x.ns 6).toNat = (x.ns 6).toNat + 1
      unfold Ex.ns atN
      split <;> dsimp only <;> omega
    rw [e1, e2]
    refine ⟨.mk' (by unfold noTwo; decide), fun a rest us hr g => ?_⟩
    obtain ⟨ts, k1, k2⟩ := hx.app (a := a + 1) hr (len_eq g (by simp; omega))
    obtain ⟨t, t1, t2⟩ := put_sg tk_neg (a := a) (hx.1.app rest) k2
    exact ⟨t :: ts, .neg t1 k1, by simpa [List.append_assoc] using t2⟩
  · obtain ⟨rfl, rfl⟩ := hv' (by decide)
    obtain ⟨x, rfl⟩ := len1 hk (by decide)
    have hx := ih x (by simp) 6 (by decide) (by decide)
    have hbx := hb x (by simp)
    have e1 : bareK 7 [] [] n (Ex.bares [x]) = Lib.decDigits n.toNat ++ ([32, 42, 32] ++ x.pr (6 : Nat)) := by rw [← kid0 x [] ((6 : Nat) : Int), ← itoa_nn hn0]; rfl
    have e2 : (bnK 7 (Ex.bns [x])).toNat = (x.ns (6 : Nat)).toNat + 1 := by
      rw [Ex.bns, Ex.bns]
      show (1 + x.ns 6).toNat = (x.ns 6).toNat + 1
      unfold Ex.ns atN
      split <;> dsimp only <;> omega
    rw [e1, e2]
    refine ⟨(dec_start _).app _, fun a rest us hr g => ?_⟩
    obtain ⟨ts, k1, k2⟩ := hx.app (a := a + (Lib.decDigits n.toNat).length + 3) hr (len_eq g (by simp; omega))
    have k3 : Lx (32 :: (x.pr (6 : Nat) ++ rest)) (a + (Lib.decDigits n.toNat).length + 1 + ([42] : Str).length) (ts ++ us) := .blank bl32 k2
    obtain ⟨u, u1, u2⟩ := put_sg tk_mul (a := a + (Lib.decDigits n.toNat).length + 1) (.mk' nt32) k3
    have u3 := Lx.blank (a := a + (Lib.decDigits n.toNat).length) bl32 u2
    obtain ⟨t, t1, t2⟩ := put_num big (a := a) (end32 _) u3
    exact ⟨t :: u :: ts, .mul (by rw [nat]; exact t1) u1 k1, by simpa [List.append_assoc] using t2⟩
  · obtain ⟨rfl, rfl⟩ := hv' (by omega)
    obtain rfl := hnz (by omega) (by omega)
    rcases hsh with ⟨rfl, h⟩ | ⟨x, rfl, h⟩ | ⟨x, y, rfl, h⟩
    · omega
    · omega
    obtain ⟨rl, l, r, hr, q1, q2, q3, q4, hs⟩ := bin_rule hop8 hop.2
    have hx := ih x (by simp) l q4.1 q4.2.1
    have hy := ih y (by simp) r q4.2.2.1 q4.2.2.2
    have hbx := hb x (by simp)
    have hby := hb y (by simp)
    have e1 : bareK op [] [] 0 (Ex.bares [x, y]) = x.pr l ++ (([32] ++ (signOf op ++ [32])) ++ y.pr r) := by
      rw [← q2, ← q3, ← kid0 x [y] (leftS op), ← kid1 x y [] (rightS op)]
      unfold bareK
      iterate 7 rw [if_neg (by omega)]
    have e2 : (bnK op (Ex.bns [x, y])).toNat = max (x.ns l).toNat (y.ns r).toNat := by
      rw [Ex.bns, Ex.bns, Ex.bns]
      show (max (x.ns (leftS op)) (y.ns (rightS op))).toNat = _
      rw [q2, q3]
      omega
    rw [e1, e2]
    refine ⟨hx.1.app _, fun a rest us hr' g => ?_⟩
    obtain ⟨ts2, k1, k2⟩ := hy.app (a := a + (x.pr l).length + 1 + (signOf op).length + 1) hr' (len_eq g (by simp; omega))
    have k3 := Lx.blank (a := a + (x.pr l).length + 1 + (signOf op).length) bl32 k2
    obtain ⟨u, u1, u2⟩ := put_sg hs (a := a + (x.pr l).length + 1) (.mk' nt32) k3
    have u3 := Lx.blank (a := a + (x.pr l).length) bl32 u2
    obtain ⟨ts1, t1, t2⟩ := hx.app (a := a) (end32 _) u3
    refine ⟨ts1 ++ u :: ts2, .bin hr (by omega) t1 u1 k1, by simpa [List.append_assoc] using t2⟩
theorem spell (N : Nat) : ∀ (e : Ex), e.pre.length ≤ N → PrOk e → ∀ L : Nat, 1 ≤ L → L ≤ 6 → Spl L (e.pr L) e (e.ns L).toNat := by
  induction N with
  | zero => intro e h; have := e.pre_pos; omega
  | succ N ih =>
    intro e hN he L h1 h6
    have hkid : ∀ y ∈ e.kids, ∀ L : Nat, 1 ≤ L → L ≤ 6 → Spl L (y.pr L) y (y.ns L).toNat := fun y hy => ih y (by have := e.pre_kid hy; omega) (he.kid hy)
    have hb := ns_bound _ e (Nat.le_refl _) he
    have hl := levelS_le e.op
    unfold Ex.pr atL Ex.ns atN
    dsimp only
    by_cases hlv : levelS e.op < L
    · rw [if_pos hlv, if_pos hlv]
      have h := (spell_bare e he hkid 1 (by omega)).par (L := L)
      rwa [show (1 + e.bn).toNat = e.bn.toNat + 1 by omega]
    · rw [if_neg hlv, if_neg hlv]
      exact spell_bare e he hkid L hlv
/-- The end of a text. -/
theorem nop_end (s : Str) : nop 0 [endT s] := fun q _ x _ t ht h => by
  simp at ht; subst ht
  have := h.1
  simp [endT] at this
theorem of_end (a o : Int) (s : Str) : ((rd a o [endT s]).of 5).2.code = 0 := by
  have e : (rd a o [endT s]).next = endT s := rfl
  unfold Rd.of Rd.want
  rw [e, if_pos (show (endT s).kind = 5 from rfl)]
  unfold Rd.take
  split <;> rfl
/-- A text of which an expression is derived, as an expression. -/
theorem exprS_of {w : Str} {e : Ex} {d : Nat} (h : Spl 1 w e d) (hl : w.length ≤ 20000) : (d ≤ 64 → ∃ e', exprS w = (e', 0, 0) ∧ e'.er = e.er) ∧ (64 < d → (exprS w).2.1 = 41) := by
  obtain ⟨ts, h1, h2⟩ := h.2 0 [] [] endOk_nil (.nil _)
  rw [List.append_nil, List.append_nil] at h2
  have hs := h2.all hl
  have hok := scanS_ok (s := w) (by rw [hs])
  rw [hs] at hok
  have hT : Tl (ts ++ [endT w]) := ⟨⟨ts, endT w, rfl, rfl⟩, hok.len⟩
  obtain ⟨g1, g2⟩ := h1.expr 0 (o := 0) (Int.le_refl _) (by decide) (by simp) hT (nop_end w)
  unfold exprS
  rw [hs]
  dsimp only
  refine ⟨fun hd => ?_, fun hd => ?_⟩
  · obtain ⟨e', k1, k2⟩ := g1 (by omega)
    refine ⟨e', ?_, k1⟩
    rw [show (Rd.mk 0 0 (ts ++ [endT w]) 0).expr = (e', rd 0 0 [endT w]) from k2, if_pos rfl, if_pos (of_end 0 0 w)]
  · have hb := g2 (by omega)
    have hc : ((Rd.mk 0 0 (ts ++ [endT w]) 0).expr.2.of 5).2 = (Rd.mk 0 0 (ts ++ [endT w]) 0).expr.2 := by
      rw [bad_of hb.code (by decide)]
    have h41 : (Rd.mk 0 0 (ts ++ [endT w]) 0).expr.2.code = 41 := hb.1
    rw [if_pos rfl, hc, h41, if_neg (by decide)]
/-- An expression's text, parsed. -/
theorem expr_back (e : Ex) (he : PrOk e) (hl : (e.pr 1).length ≤ 20000) : (e.ns 1 ≤ 64 → ∃ e', exprS (e.pr 1) = (e', 0, 0) ∧ e'.er = e.er) ∧ (64 < e.ns 1 → (exprS (e.pr 1)).2.1 = 41) := by
  have h := spell _ e (Nat.le_refl _) he 1 (by decide) (by decide)
  obtain ⟨g1, g2⟩ := exprS_of (w := e.pr 1) h hl
  exact ⟨fun hd => g1 (by show (e.ns 1).toNat ≤ 64; omega), fun hd => g2 (by show 64 < (e.ns 1).toNat; omega)⟩
theorem expr_back_par (e : Ex) (he : PrOk e) (hl : (e.pr 1).length + 2 ≤ 20000) : (e.ns 1 < 64 → ∃ e', exprS ([40] ++ (e.pr 1 ++ [41])) = (e', 0, 0) ∧ e'.er = e.er) ∧ (64 ≤ e.ns 1 → (exprS ([40] ++ (e.pr 1 ++ [41]))).2.1 = 41) := by
  have h := (spell _ e (Nat.le_refl _) he 1 (by decide) (by decide)).par (L := 1)
  obtain ⟨g1, g2⟩ := exprS_of (w := [40] ++ (e.pr 1 ++ [41])) h (by simp; omega)
  exact ⟨fun hd => g1 (by show (e.ns 1).toNat + 1 ≤ 64; omega), fun hd => g2 (by show 64 < (e.ns 1).toNat + 1; omega)⟩
end Go.Proofs.YtmflfcbebeikcaaGreatDoor.Q

namespace Go.Proofs.YtmflfcbebeikcaaGreatDoor.Q
open Go.RowKit
variable [Amb] [Pow]
theorem eqL_iff {α β : Type} {p : α → α → Bool} {f : α → β} : ∀ {xs ys : List α}, (∀ x ∈ xs, ∀ y ∈ ys, (p x y = true ↔ f x = f y)) → (eqL p xs ys = true ↔ xs.map f = ys.map f)
  | [], [], _ => by simp [eqL]
  | [], y :: ys, _ => by simp [eqL]
  | x :: xs, [], _ => by simp [eqL]
  | x :: xs, y :: ys, h => by
    rw [eqL, Bool.and_eq_true, h x (by simp) y (by simp), eqL_iff fun a ha b hb => h a (List.mem_cons_of_mem _ ha) b (List.mem_cons_of_mem _ hb)]
    simp
theorem Ex.same_iff (N : Nat) : ∀ (a b : Ex), a.pre.length ≤ N → (a.same b = true ↔ a.er = b.er) := by
  induction N with
  | zero => intro a b h; have := a.pre_pos; omega
  | succ N ih =>
    intro a b hN
    rw [Ex.same_eq, Ex.er_eq, Ex.er_eq b]
    simp only [Bool.and_eq_true, beq_iff_eq, Ex.mk.injEq, and_true]
    rw [eqL_iff (f := Ex.er) fun x hx y hy => ih x y (by have := a.pre_kid hx; omega)]
    constructor
    · rintro ⟨⟨⟨⟨h1, h2⟩, h3⟩, h4⟩, h5⟩
      exact ⟨h1, h2, h3, h4, h5⟩
    · rintro ⟨h1, h2, h3, h4, h5⟩
      exact ⟨⟨⟨⟨h1, h2⟩, h3⟩, h4⟩, h5⟩
theorem Ex.same_er (a b : Ex) : a.same b = true ↔ a.er = b.er := Ex.same_iff _ a b (Nat.le_refl _)
theorem bares_map : ∀ l : List Ex, Ex.bares l = l.map fun a => (levelS a.op, a.bare)
  | [] => by simp [Ex.bares]
  | a :: r => by rw [Ex.bares, bares_map r]; rfl
theorem er_op (a : Ex) : a.er.op = a.op := by rw [Ex.er_eq]
theorem bare_er (N : Nat) : ∀ (a : Ex), a.pre.length ≤ N → a.er.bare = a.bare := by
  induction N with
  | zero => intro a h; have := a.pre_pos; omega
  | succ N ih =>
    intro a hN
    rw [Ex.er_eq]
    have hk : ∀ y ∈ a.kids, y.er.bare = y.bare := fun y hy => ih y (by have := a.pre_kid hy; omega)
    obtain ⟨op, mon, name, n, kids, pl⟩ := a
    dsimp only at *
    rw [Ex.bare, Ex.bare, bares_map, bares_map, List.map_map]
    congr 1
    refine List.map_congr_left fun y hy => ?_
    show (levelS y.er.op, y.er.bare) = _
    rw [er_op, hk y hy]
theorem pr_er (a : Ex) (lv : Int) : a.er.pr lv = a.pr lv := by
  unfold Ex.pr
  rw [er_op, bare_er _ a (Nat.le_refl _)]
/-- The text of an expression that is printed. -/
theorem exprP_ok {e : Ex} (hn : ∀ y ∈ e.pre, R64 y.n) (h : (exprP e).2 = 0) : PrOk e ∧ e.ns 1 ≤ 64 ∧ (e.pr 1).length ≤ 20000 ∧ (exprP e).1 = e.pr 1 ∧ nestP e = e.ns 1 := by
  unfold exprP at h ⊢
  by_cases h1 : checkS e ≠ 0
  · rw [if_pos h1] at h; exact absurd h h1
  rw [if_neg h1] at h ⊢
  have h1 : checkS e = 0 := by simpa using h1
  by_cases h2 : e.ns 1 > 64
  · rw [if_pos h2] at h; exact absurd h (by show ¬ (41 : Int) = 0; decide)
  rw [if_neg h2] at h ⊢
  unfold toldS at h ⊢
  by_cases h3 : (e.pr 1).length > 20000
  · rw [if_pos h3] at h; exact absurd h (by show ¬ (1 : Int) = 0; decide)
  rw [if_neg h3]
  exact ⟨checkS_ok h1 hn, by omega, by omega, rfl, by unfold nestP; rw [h1]; rfl⟩
theorem exprP_nn (e : Ex) : 0 ≤ (exprP e).2 ∧ (exprP e).2 ≤ 50 := by
  unfold exprP
  split
  · unfold checkS; cases e.pre.all isPartS <;> decide
  split
  · show (0 : Int) ≤ 41 ∧ (41 : Int) ≤ 50; decide
  · unfold toldS; split <;> (dsimp only; decide)
/-- Texts tell expressions apart. -/
theorem apart_expr {a b : Ex} (ha : PrOk a) (hb : PrOk b) (na : a.ns 1 ≤ 64) (nb : b.ns 1 ≤ 64) (la : (a.pr 1).length ≤ 20000) (lb : (b.pr 1).length ≤ 20000) : (a.pr 1 == b.pr 1) = a.same b := by
  rw [Bool.eq_iff_iff, beq_iff_eq, Ex.same_er]
  constructor
  · intro h
    obtain ⟨a', e1, e2⟩ := (expr_back a ha la).1 na
    obtain ⟨b', f1, f2⟩ := (expr_back b hb lb).1 nb
    rw [h, f1] at e1
    have : b' = a' := congrArg Prod.fst e1
    rw [← e2, ← f2, this]
  · intro h
    rw [← pr_er a, ← pr_er b, h]
/-! ### how long a text is -/
theorem dec_len19 : ∀ (f m : Nat), m < 10 ^ (f + 1) → (Lib.decDigits m).length ≤ f + 1 := by
  intro f
  induction f with
  | zero => intro m hm; rw [Lib.decDigits, dif_pos (by simpa using hm)]; simp
  | succ f ih =>
    intro m hm
    rw [Lib.decDigits]
    by_cases h1 : m < 10
    · rw [dif_pos h1]; simp
    · rw [dif_neg h1, List.length_append, List.length_singleton]
      have := ih (m / 10) (by rw [Nat.div_lt_iff_lt_mul (by decide)]; rw [Nat.pow_succ] at hm; exact hm)
      omega
theorem sgn_len (op : Int) : (signOf op).length ≤ 2 := by
  unfold signOf signL
  simp only [List.find?]
  repeat' split
  all_goals simp
theorem atom_level {op : Int} (h1 : 1 ≤ op) (h : op ≤ 4) : levelS op = 6 := by
  have : op = 1 ∨ op = 2 ∨ op = 3 ∨ op = 4 := by omega
  rcases this with rfl | rfl | rfl | rfl <;> rfl
theorem pr_len' (N : Nat) : ∀ (e : Ex), e.pre.length ≤ N → PrOk e → ∀ lv : Int, lv ≤ 6 → (e.pr lv).length ≤ 36 * e.pre.length + 29 := by
  induction N with
  | zero => intro e h; have := e.pre_pos; omega
  | succ N ih =>
    intro e hN he lv hlv
    have hk : ∀ y ∈ e.kids, ∀ lv : Int, lv ≤ 6 → (y.pr lv).length ≤ 36 * y.pre.length + 29 := fun y hy => ih y (by have := e.pre_kid hy; omega) (he.kid hy)
    obtain ⟨_, hv, _, hn0, hn, _⟩ := part_is he
    have hnn : (Lib.itoa e.n).length ≤ 19 := by
      rw [itoa_nn hn0]
      exact dec_len19 18 _ (by unfold R64 at hn; omega)
    have hpre : e.pre.length = 1 + (Ex.pres e.kids).length := by rw [e.pre_eq, List.length_cons]; omega
    have o1 := he.op
    have main : e.bare.length + 2 ≤ 36 * e.pre.length + 29 ∨ (e.op ≤ 4 ∧ e.bare.length ≤ 36 * e.pre.length + 29) := by
      have hsh := he.shape
      obtain ⟨op, mon, name, n, kids, pl⟩ := e
      dsimp only at *
      rw [Ex.bare]
      rcases hsh with ⟨rfl, ho⟩ | ⟨a, rfl, ho1, ho2⟩ | ⟨a, b, rfl, ho⟩
      · right
        refine ⟨ho, ?_⟩
        have hop : op = 1 ∨ op = 2 ∨ op = 3 ∨ op = 4 := by omega
        rcases hop with rfl | rfl | rfl | rfl
        · show (Lib.itoa n).length ≤ _; omega
        · show 4 ≤ _; omega
        · show 5 ≤ _; omega
        · obtain ⟨m1, m2⟩ := hv rfl
          have := (isName_is m1).2.1
          have := (isName_is m2).2.1
          show (mon ++ ([46] ++ name)).length ≤ _
          simp only [List.length_append, List.length_singleton]; omega
      · left
        have hpa : (Ex.pres [a]).length = a.pre.length := by rw [Ex.pres_map]; simp
        have hop : op = 5 ∨ op = 6 ∨ op = 7 := by omega
        rcases hop with rfl | rfl | rfl
        · have := hk a (by simp) 3 (by decide)
          have e1 : bareK 5 mon name n (Ex.bares [a]) = [33] ++ a.pr 3 := by rw [← kid0 a [] 3]; rfl
          rw [e1]; simp only [List.length_append, List.length_singleton]; omega
        · have := hk a (by simp) 6 (by decide)
          have e1 : bareK 6 mon name n (Ex.bares [a]) = [45] ++ a.pr 6 := by rw [← kid0 a [] 6]; rfl
          rw [e1]; simp only [List.length_append, List.length_singleton]; omega
        · have := hk a (by simp) 6 (by decide)
          have e1 : bareK 7 mon name n (Ex.bares [a]) = Lib.itoa n ++ ([32, 42, 32] ++ a.pr 6) := by rw [← kid0 a [] 6]; rfl
          rw [e1]; simp only [List.length_append, List.length_cons, List.length_nil]; omega
      · left
        obtain ⟨rl, l, r, hr, q1, q2, q3, q4, hs⟩ := bin_rule (by omega) o1.2
        have h1 := hk a (by simp) (leftS op) (by omega)
        have h2 := hk b (by simp) (rightS op) (by omega)
        have hpa : (Ex.pres [a, b]).length = a.pre.length + b.pre.length := by rw [Ex.pres_map]; simp
        have := sgn_len op
        have e1 : bareK op mon name n (Ex.bares [a, b]) = a.pr (leftS op) ++ (([32] ++ (signOf op ++ [32])) ++ b.pr (rightS op)) := by
          rw [← kid0 a [b] (leftS op), ← kid1 a b [] (rightS op)]
          unfold bareK
          iterate 7 rw [if_neg (by omega)]
        rw [e1]; simp only [List.length_append, List.length_singleton]; omega
    unfold Ex.pr atL
    dsimp only
    rcases main with h | ⟨h4, h⟩
    · split
      · simp only [List.length_append, List.length_singleton]; omega
      · omega
    · rw [atom_level o1.1 h4, if_neg (by omega)]; exact h
theorem fits_Fit (N : Nat) : ∀ (e : Ex), e.pre.length ≤ N → (∀ y ∈ e.pre, y.kids.length < 1073741824) → e.Fit := by
  induction N with
  | zero => intro e h; have := e.pre_pos; omega
  | succ N ih =>
    intro e hN hk
    have h0 := hk e (by rw [e.pre_eq]; simp)
    have hs : ∀ y ∈ e.kids, y.Fit := fun y hy => ih y (by have := e.pre_kid hy; omega) fun z hz => hk z (by
      rw [e.pre_eq, Ex.pres_map]
      exact List.mem_cons_of_mem _ (List.mem_flatMap.2 ⟨y, hy, hz⟩))
    obtain ⟨op, mon, name, n, kids, pl⟩ := e
    exact .mk (by dsimp only at h0; show kids.length < 1099511627776; omega) hs
end Go.Proofs.YtmflfcbebeikcaaGreatDoor.Q
