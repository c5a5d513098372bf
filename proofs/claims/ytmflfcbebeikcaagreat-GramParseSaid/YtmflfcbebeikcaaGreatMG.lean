/- The matcher's steps, rows, expressions; what it remembers; sets of places are derivations. No condition. -/
import Derived.Test.YtmflfcbebeikcaaGreatMD
import Derived.Test.YtmflfcbebeikcaaGreatME
import Derived.Test.YtmflfcbebeikcaaGreatMF
set_option linter.unusedVariables false
set_option linter.unusedSectionVars false
set_option linter.unnecessarySimpa false
set_option linter.unusedSimpArgs false
set_option maxRecDepth 100000
set_option maxHeartbeats 4000000
namespace Go.Proofs.YtmflfcbebeikcaaGreat.Q
open Go.RowKit
variable [Amb]
def okAt (l : List Tk) (p : Tk → Bool) (i : Int) : Bool := match l[i.toNat]? with
  | some t => p t
  | none => false
/-- The places behind the tokens that are right. -/
def stepS (l : List Tk) (p : Tk → Bool) : List Int → List Int
  | [] => []
  | i :: r => if okAt l p i = true then addI (i + 1) (stepS l p r) else stepS l p r
theorem mem_stepS {l : List Tk} {p : Tk → Bool} {x : Int} : ∀ {S : List Int}, x ∈ stepS l p S ↔ ∃ i, i ∈ S ∧ okAt l p i = true ∧ x = i + 1
  | [] => by simp [stepS]
  | i :: r => by
    unfold stepS
    split
    · rename_i h
      rw [mem_addI, mem_stepS]
      constructor
      · rintro (rfl | ⟨j, h1, h2⟩)
        · exact ⟨i, List.mem_cons_self, h, rfl⟩
        · exact ⟨j, List.mem_cons_of_mem _ h1, h2⟩
      · rintro ⟨j, h1, h2, h3⟩
        rcases List.mem_cons.1 h1 with rfl | h1
        · exact .inl h3
        · exact .inr ⟨j, h1, h2, h3⟩
    · rename_i h
      rw [mem_stepS]
      constructor
      · rintro ⟨j, h1, h2⟩; exact ⟨j, List.mem_cons_of_mem _ h1, h2⟩
      · rintro ⟨j, h1, h2, h3⟩
        rcases List.mem_cons.1 h1 with rfl | h1
        · exact absurd h2 h
        · exact ⟨j, h1, h2, h3⟩
theorem srt_stepS (l : List Tk) (p : Tk → Bool) : ∀ S, Srt (stepS l p S)
  | [] => List.Pairwise.nil
  | i :: r => by
    unfold stepS
    split
    · exact srt_add (srt_stepS l p r)
    · exact srt_stepS l p r
def outA (l : List Tk) (p : Tk → Bool) (acc : List Int) (a : List V) : List Int := match a with
  | [.d (.int .i64 k)] => if okAt l p k = true then addI (k + 1) acc else acc
  | _ => acc
def outH (l : List Tk) (p : Tk → Bool) (xs : List (List V)) : List Int := xs.foldl (outA l p) []
theorem outH_snoc (l : List Tk) (p : Tk → Bool) (xs : List (List V)) (k : Int) : outH l p (xs ++ [[iv k]]) = if okAt l p k = true then addI (k + 1) (outH l p xs) else outH l p xs := by
  unfold outH
  rw [List.foldl_append]
  rfl
theorem outH_hist (l : List Tk) (p : Tk → Bool) : ∀ seen, outH l p (histK seen) = stepS l p seen
  | [] => rfl
  | k :: r => by
    show outH l p (histK r ++ [[iv k]]) = _
    rw [outH_snoc, outH_hist l p r]
    rfl
theorem step_c (l : List Tk) (mt : D) (S : List Int) (g : FuncId) (row : List D) (p : Tk → Bool) (hl : l.length < 1073741824) (hS : ∀ i ∈ S, 0 ≤ i)
    (hR : ∀ t ∈ l, PFun Tryz.prog g [t.v, .iptr row] [] (.d (.bool (p t))) []) :
    PFun Tryz.prog 80 [.iptr [.sl (l.map Tk.c), mt], .d (.set S), .fn (.func g) [] [.iptr row]] [] (.d (.set (stepS l p S))) [] := by
  refine fn_sem pok 35 0 Tryz.func80 (by kernel_rfl) rfl rfl rfl rfl ?_
  refine SWp.then pok (by kernel_rfl) ?_
  refine SWp.then pok (by kernel_rfl) ?_
  refine SWp.seq ?_
  refine SWp.then pok (by kernel_rfl) ?_
  refine PFun.call (keys_c S) ?_
  refine SWp.block ?_
  refine SWp.range 121 [.iptr [.set S]] rfl rfl (by decide) (fun _ => .normal) rfl (fun xs => ∃ zs k, k ∈ S ∧ xs = zs ++ [[iv k]])
    (fun xs a ⟨zs, y, _, e⟩ => by have := (List.append_inj' e rfl).2; injection this with this; rw [this]; rfl)
    (fun xs => [.box [.iptr [.sl (l.map Tk.c), mt]], .box [.fn (.func g) [] [.iptr row]], .iset (outH l p xs), .box [.map 2]]) (fun xs => rfl)
    (fun xs => ∃ seen : List Int, (∀ k, k ∈ seen → k ∈ S) ∧ (∀ k, k ∈ S → k ∈ seen) ∧ xs = histK seen) (fun l0 xs a hok hfin => ?_) ?_ (fun xs hz => ?_)
  · obtain ⟨zs, k, hk, e⟩ := hok
    obtain ⟨e1, e2⟩ := List.append_inj' e rfl
    injection e2 with e2
    subst e1; subst e2
    have hk0 := hS k hk
    unfold roundQ
    have hsn := outH_snoc l p xs k
    refine SWp.go pok (by kernel_rfl) ?_
    refine SWp.go pok (by kernel_rfl) ?_
    refine brP_split (fun h => ?_) (fun h => ?_)
    · have hlt : k.toNat < l.length := by simp at h; omega
      have hg : l[k.toNat]? = some l[k.toNat] := List.getElem?_eq_getElem hlt
      have hz : k = (k.toNat : Int) := by omega
      have hat : okAt l p k = p l[k.toNat] := by unfold okAt; rw [hg]
      repeat refine brP_true h ?_
      refine PIdx.map' hz hg ?_
      refine ⟨_, _, hR _ (List.getElem_mem hlt), ?_⟩
      have hw : IntKind.i64.wrap (k + 1) = k + 1 := wrap_in (by unfold R64; omega)
      refine brP_split (fun h3 => ?_) (fun h3 => ?_)
      · rw [if_pos (by rw [hat]; exact h3)] at hsn
        exact ⟨rfl, .inr ⟨[0, 1, 2, 3], ⟨rfl, rfl⟩, by rw [hw]; dsimp only; rw [hsn]; rfl, trivial⟩⟩
      · rw [if_neg (by rw [hat, h3]; simp)] at hsn
        exact ⟨rfl, .inr ⟨[0, 1, 2, 3], ⟨rfl, rfl⟩, by dsimp only; rw [hsn]; rfl, trivial⟩⟩
    · have hat : okAt l p k = false := by
        unfold okAt
        rw [List.getElem?_eq_none (by simp at h; omega)]
      rw [if_neg (by rw [hat]; simp)] at hsn
      repeat refine brP_false h ?_
      exact ⟨rfl, .inr ⟨[0, 1, 2, 3], ⟨rfl, rfl⟩, by dsimp only; rw [hsn]; rfl, trivial⟩⟩
  · refine ⟨rfl, rfl, fun A' _ _ hgo hok => ?_⟩
    refine PCalls.mono (@keys1_c A' S (fun xs => by rw [hgo]; rfl) (fun zs k hk => by rw [hok]; exact ⟨rfl, zs, k, hk, rfl⟩)) ?_
    rintro r h' ⟨seen, h1, h2, rfl⟩
    exact ⟨_, [], rfl, rfl, seen, h1, h2, rfl⟩
  · obtain ⟨seen, h1, h2, rfl⟩ := hz
    have he : outH l p (histK seen) = stepS l p S := by
      rw [outH_hist]
      exact srt_ext (srt_stepS l p _) (srt_stepS l p _) fun x => by
        rw [mem_stepS, mem_stepS]
        exact ⟨fun ⟨i, g1, g2⟩ => ⟨i, h1 i g1, g2⟩, fun ⟨i, g1, g2⟩ => ⟨i, h2 i g1, g2⟩⟩
    rw [he]
    refine SWp.then pok (by kernel_rfl) ?_
    refine SWp.frzSet 2 rfl ?_
    refine SWp.go pok (by kernel_rfl) ?_
    exact ⟨rfl, rfl⟩
/-- The same; the set may still be changed. -/
theorem step_m (l : List Tk) (mt : D) (S : List Int) (g : FuncId) (row : List D) (p : Tk → Bool) (hl : l.length < 1073741824) (hS : ∀ i ∈ S, 0 ≤ i)
    (hR : ∀ t ∈ l, PFun Tryz.prog g [t.v, .iptr row] [] (.d (.bool (p t))) []) :
    PFun Tryz.prog 80 [.iptr [.sl (l.map Tk.c), mt], .d (.set S), .fn (.func g) [] [.iptr row]] [] (.map 0) [.iset (stepS l p S)] := by
  refine fn_sem pok 35 0 Tryz.func80 (by kernel_rfl) rfl rfl rfl rfl ?_
  refine SWp.then pok (by kernel_rfl) ?_
  refine SWp.then pok (by kernel_rfl) ?_
  refine SWp.seq ?_
  refine SWp.then pok (by kernel_rfl) ?_
  refine PFun.call (keys_c S) ?_
  refine SWp.block ?_
  refine SWp.range 121 [.iptr [.set S]] rfl rfl (by decide) (fun _ => .normal) rfl (fun xs => ∃ zs k, k ∈ S ∧ xs = zs ++ [[iv k]])
    (fun xs a ⟨zs, y, _, e⟩ => by have := (List.append_inj' e rfl).2; injection this with this; rw [this]; rfl)
    (fun xs => [.box [.iptr [.sl (l.map Tk.c), mt]], .box [.fn (.func g) [] [.iptr row]], .iset (outH l p xs), .box [.map 2]]) (fun xs => rfl)
    (fun xs => ∃ seen : List Int, (∀ k, k ∈ seen → k ∈ S) ∧ (∀ k, k ∈ S → k ∈ seen) ∧ xs = histK seen) (fun l0 xs a hok hfin => ?_) ?_ (fun xs hz => ?_)
  · obtain ⟨zs, k, hk, e⟩ := hok
    obtain ⟨e1, e2⟩ := List.append_inj' e rfl
    injection e2 with e2
    subst e1; subst e2
    have hk0 := hS k hk
    unfold roundQ
    have hsn := outH_snoc l p xs k
    refine SWp.go pok (by kernel_rfl) ?_
    refine SWp.go pok (by kernel_rfl) ?_
    refine brP_split (fun h => ?_) (fun h => ?_)
    · have hlt : k.toNat < l.length := by simp at h; omega
      have hg : l[k.toNat]? = some l[k.toNat] := List.getElem?_eq_getElem hlt
      have hz : k = (k.toNat : Int) := by omega
      have hat : okAt l p k = p l[k.toNat] := by unfold okAt; rw [hg]
      repeat refine brP_true h ?_
      refine PIdx.map' hz hg ?_
      refine ⟨_, _, hR _ (List.getElem_mem hlt), ?_⟩
      have hw : IntKind.i64.wrap (k + 1) = k + 1 := wrap_in (by unfold R64; omega)
      refine brP_split (fun h3 => ?_) (fun h3 => ?_)
      · rw [if_pos (by rw [hat]; exact h3)] at hsn
        exact ⟨rfl, .inr ⟨[0, 1, 2, 3], ⟨rfl, rfl⟩, by rw [hw]; dsimp only; rw [hsn]; rfl, trivial⟩⟩
      · rw [if_neg (by rw [hat, h3]; simp)] at hsn
        exact ⟨rfl, .inr ⟨[0, 1, 2, 3], ⟨rfl, rfl⟩, by dsimp only; rw [hsn]; rfl, trivial⟩⟩
    · have hat : okAt l p k = false := by
        unfold okAt
        rw [List.getElem?_eq_none (by simp at h; omega)]
      rw [if_neg (by rw [hat]; simp)] at hsn
      repeat refine brP_false h ?_
      exact ⟨rfl, .inr ⟨[0, 1, 2, 3], ⟨rfl, rfl⟩, by dsimp only; rw [hsn]; rfl, trivial⟩⟩
  · refine ⟨rfl, rfl, fun A' _ _ hgo hok => ?_⟩
    refine PCalls.mono (@keys1_c A' S (fun xs => by rw [hgo]; rfl) (fun zs k hk => by rw [hok]; exact ⟨rfl, zs, k, hk, rfl⟩)) ?_
    rintro r h' ⟨seen, h1, h2, rfl⟩
    exact ⟨_, [], rfl, rfl, seen, h1, h2, rfl⟩
  · obtain ⟨seen, h1, h2, rfl⟩ := hz
    have he : outH l p (histK seen) = stepS l p S := by
      rw [outH_hist]
      exact srt_ext (srt_stepS l p _) (srt_stepS l p _) fun x => by
        rw [mem_stepS, mem_stepS]
        exact ⟨fun ⟨i, g1, g2⟩ => ⟨i, h1 i g1, g2⟩, fun ⟨i, g1, g2⟩ => ⟨i, h2 i g1, g2⟩⟩
    rw [he]
    refine SWp.go pok (by kernel_rfl) ?_
    exact ⟨rfl, rfl⟩
end Go.Proofs.YtmflfcbebeikcaaGreat.Q

namespace Go.Proofs.YtmflfcbebeikcaaGreat.Q
open Go.RowKit
variable [Amb]
def isS (s : Str) (t : Tk) : Bool := ((t.kind == 3) || (t.kind == 4)) && (t.text == s)
def isN (s : Str) (t : Tk) : Bool := (t.kind == 1) && (t.text == s)
def isI (n : Int) (t : Tk) : Bool := (t.kind == 2) && (t.n == n)
/-- A matcher: tokens; what it remembers. -/
abbrev mtR (l : List Tk) (mt : D) : List D := [.sl (l.map Tk.c), mt]
theorem sign1_c (s : Str) (t : Tk) : PFun Tryz.prog 81 [t.v, .iptr [.str s]] [] (.d (.bool (isS s t))) [] := by
  refine fn_sem pok 18 0 Tryz.func81 (by kernel_rfl) rfl rfl rfl rfl ?_
  refine SWp.go pok (by kernel_rfl) ?_
  unfold isS
  repeat' (refine brP_split (fun h => ?_) (fun h => ?_))
  all_goals
    refine fin1 (dbool ?_)
    simp_all
theorem name1_c (s : Str) (t : Tk) : PFun Tryz.prog 133 [t.v, .iptr [.str s]] [] (.d (.bool (isN s t))) [] := by
  refine fn_sem pok 13 0 Tryz.func133 (by kernel_rfl) rfl rfl rfl rfl ?_
  refine SWp.go pok (by kernel_rfl) ?_
  unfold isN
  repeat' (refine brP_split (fun h => ?_) (fun h => ?_))
  all_goals
    refine fin1 (dbool ?_)
    simp_all
theorem number1_c (n : Int) (t : Tk) : PFun Tryz.prog 118 [t.v, .iptr [.int .i64 n]] [] (.d (.bool (isI n t))) [] := by
  refine fn_sem pok 13 0 Tryz.func118 (by kernel_rfl) rfl rfl rfl rfl ?_
  refine SWp.go pok (by kernel_rfl) ?_
  unfold isI
  repeat' (refine brP_split (fun h => ?_) (fun h => ?_))
  all_goals
    refine fin1 (dbool ?_)
    simp_all
section
variable (l : List Tk) (mt : D) (hl : l.length < 1073741824)
theorem gsign_c (hl : l.length < 1073741824) (s : Str) (S : List Int) (hS : ∀ i ∈ S, 0 ≤ i) : PFun Tryz.prog 47 [.iptr (mtR l mt), sv' s, .d (.set S)] [] (.d (.set (stepS l (isS s) S))) [] := by
  refine fn_sem pok 11 0 Tryz.func47 (by kernel_rfl) rfl rfl rfl rfl ?_
  refine SWp.then pok (by kernel_rfl) ?_
  refine SWp.frz 0 rfl rfl ?_
  refine SWp.go pok (by kernel_rfl) ?_
  refine PFun.call (step_c l mt S 81 [.str s] (isS s) hl hS (fun t _ => sign1_c s t)) ?_
  exact ⟨rfl, rfl⟩
theorem gname_c (hl : l.length < 1073741824) (s : Str) (S : List Int) (hS : ∀ i ∈ S, 0 ≤ i) : PFun Tryz.prog 114 [.iptr (mtR l mt), sv' s, .d (.set S)] [] (.d (.set (stepS l (isN s) S))) [] := by
  refine fn_sem pok 11 0 Tryz.func114 (by kernel_rfl) rfl rfl rfl rfl ?_
  refine SWp.then pok (by kernel_rfl) ?_
  refine SWp.frz 0 rfl rfl ?_
  refine SWp.go pok (by kernel_rfl) ?_
  refine PFun.call (step_c l mt S 133 [.str s] (isN s) hl hS (fun t _ => name1_c s t)) ?_
  exact ⟨rfl, rfl⟩
theorem gnumber_c (hl : l.length < 1073741824) (n : Int) (S : List Int) (hS : ∀ i ∈ S, 0 ≤ i) : PFun Tryz.prog 87 [.iptr (mtR l mt), iv n, .d (.set S)] [] (.d (.set (stepS l (isI n) S))) [] := by
  refine fn_sem pok 11 0 Tryz.func87 (by kernel_rfl) rfl rfl rfl rfl ?_
  refine SWp.then pok (by kernel_rfl) ?_
  refine SWp.frz 0 rfl rfl ?_
  refine SWp.go pok (by kernel_rfl) ?_
  refine PFun.call (step_c l mt S 118 [.int .i64 n] (isI n) hl hS (fun t _ => number1_c n t)) ?_
  exact ⟨rfl, rfl⟩
theorem gnumber_m (hl : l.length < 1073741824) (n : Int) (S : List Int) (hS : ∀ i ∈ S, 0 ≤ i) : PFun Tryz.prog 87 [.iptr (mtR l mt), iv n, .d (.set S)] [] (.map 0) [.iset (stepS l (isI n) S)] := by
  refine fn_sem pok 11 0 Tryz.func87 (by kernel_rfl) rfl rfl rfl rfl ?_
  refine SWp.then pok (by kernel_rfl) ?_
  refine SWp.frz 0 rfl rfl ?_
  refine SWp.go pok (by kernel_rfl) ?_
  refine PFun.call (step_m l mt S 118 [.int .i64 n] (isI n) hl hS (fun t _ => number1_c n t)) ?_
  exact ⟨rfl, rfl⟩
theorem gword_c (s : Str) : PFun Tryz.prog 83 [.iptr (mtR l mt), sv' s] [] (.fn (.func 112) [] [.iptr [.ptr (mtR l mt)], .iptr [.str s]]) [] := by
  refine fn_sem pok 6 0 Tryz.func83 (by kernel_rfl) rfl rfl rfl rfl ?_
  refine SWp.then pok (by kernel_rfl) ?_
  refine SWp.frz 0 rfl rfl ?_
  refine SWp.frz 1 rfl rfl ?_
  refine SWp.go pok (by kernel_rfl) ?_
  exact ⟨rfl, rfl⟩
theorem gcalled_c (s : Str) : PFun Tryz.prog 84 [.iptr (mtR l mt), sv' s] [] (.fn (.func 113) [] [.iptr [.ptr (mtR l mt)], .iptr [.str s]]) [] := by
  refine fn_sem pok 6 0 Tryz.func84 (by kernel_rfl) rfl rfl rfl rfl ?_
  refine SWp.then pok (by kernel_rfl) ?_
  refine SWp.frz 0 rfl rfl ?_
  refine SWp.frz 1 rfl rfl ?_
  refine SWp.go pok (by kernel_rfl) ?_
  exact ⟨rfl, rfl⟩
theorem gword1_c (hl : l.length < 1073741824) (s : Str) (S : List Int) (hS : ∀ i ∈ S, 0 ≤ i) : PFun Tryz.prog 112 [.d (.set S), .iptr [.ptr (mtR l mt)], .iptr [.str s]] [] (.d (.set (stepS l (isS s) S))) [] := by
  refine fn_sem pok 9 0 Tryz.func112 (by kernel_rfl) rfl rfl rfl rfl ?_
  refine SWp.go pok (by kernel_rfl) ?_
  refine PFun.call (gsign_c l mt hl s S hS) ?_
  exact ⟨rfl, rfl⟩
theorem gcalled1_c (hl : l.length < 1073741824) (s : Str) (S : List Int) (hS : ∀ i ∈ S, 0 ≤ i) : PFun Tryz.prog 113 [.d (.set S), .iptr [.ptr (mtR l mt)], .iptr [.str s]] [] (.d (.set (stepS l (isN s) S))) [] := by
  refine fn_sem pok 9 0 Tryz.func113 (by kernel_rfl) rfl rfl rfl rfl ?_
  refine SWp.go pok (by kernel_rfl) ?_
  refine PFun.call (gname_c l mt hl s S hS) ?_
  exact ⟨rfl, rfl⟩
end
end Go.Proofs.YtmflfcbebeikcaaGreat.Q

namespace Go.Proofs.YtmflfcbebeikcaaGreat.Q
open Go.RowKit
variable [Amb]
abbrev PS := List Int → List Int
/-- What is held against tokens: a function with what it keeps. -/
inductive Cl where
  | two (g : FuncId) (r1 r2 : List D)
  | three (g : FuncId) (r1 r2 r3 : List D)
def Cl.d : Cl → D
  | .two g r1 r2 => .fn (.func g) [] [.ptr r1, .ptr r2]
  | .three g r1 r2 r3 => .fn (.func g) [] [.ptr r1, .ptr r2, .ptr r3]
/-- All places of a set are behind one. -/
def OkS (a : Int) (S : List Int) : Prop := ∀ i ∈ S, a ≤ i
def Cl.Does (a : Int) (c : Cl) (f : PS) : Prop := (∀ S, OkS a S → OkS a (f S)) ∧ match c with
  | .two g r1 r2 => ∀ S, OkS a S → PFun Tryz.prog g [.d (.set S), .iptr r1, .iptr r2] [] (.d (.set (f S))) []
  | .three g r1 r2 r3 => ∀ S, OkS a S → PFun Tryz.prog g [.d (.set S), .iptr r1, .iptr r2, .iptr r3] [] (.d (.set (f S))) []
def rowS : List (Cl × PS) → List Int → List Int
  | [], S => S
  | c :: r, S => if c.2 S = [] then [] else rowS r (c.2 S)
theorem row_c (a : Int) (cs : List (Cl × PS)) (hc : cs.length < 1073741824) (hd : ∀ c ∈ cs, c.1.Does a c.2) (S0 : List Int) (hS : OkS a S0) :
    PFun Tryz.prog 82 [.d (.set S0), .d (.sl (cs.map fun c => [c.1.d]))] [] (.d (.set (rowS cs S0))) [] := by
  refine fn_sem pok 21 0 Tryz.func82 (by kernel_rfl) rfl rfl rfl rfl ?_
  refine SWp.go pok (by kernel_rfl) ?_
  refine SWp.loop (fun x : Nat × List Int => x.1 ≤ cs.length ∧ OkS a x.2 ∧ rowS (cs.drop x.1) x.2 = rowS cs S0) (fun x => ([(0, .d (.set x.2)), (7, .d (.sl (cs.map fun c => [c.1.d]))), (8, iv cs.length), (9, iv x.1)], [])) (fun x => cs.length - x.1) (0, S0) ⟨Nat.zero_le _, hS, rfl⟩ (Le.same ⟨rfl, rfl, sint (by rw [List.length_map]), rfl, trivial⟩) (fun x hx => ?_)
  obtain ⟨k, S⟩ := x
  obtain ⟨hk, hok, hrow⟩ := hx
  dsimp only at hk hok hrow
  refine SWp.go pok (by kernel_rfl) ?_
  refine brP_split (fun h => ?_) (fun h => ?_)
  · have hlt : k < cs.length := by simpa using h
    have hdo := hd _ (List.getElem_mem hlt)
    have hat : rowS (cs.drop k) S = if cs[k].2 S = [] then [] else rowS (cs.drop (k + 1)) (cs[k].2 S) := by rw [List.drop_eq_getElem_cons hlt, rowS]
    have hget : cs[k]? = some cs[k] := List.getElem?_eq_getElem hlt
    generalize cs[k] = cf at hdo hat hget
    obtain ⟨c, f⟩ := cf
    obtain ⟨hp, hdo⟩ := hdo
    dsimp only at hat
    have fin1' : (((f S).length : Int) == 0) = true → f S = [] := fun e => List.length_eq_zero_iff.1 (by simp at e; simpa using e)
    have fin0' : (((f S).length : Int) == 0) = false → f S ≠ [] := fun e he => by rw [he] at e; simp at e
    cases c with
    | two g r1 r2 =>
      refine PIdx.map hget ?_
      refine PFun.call (hdo S hok) ?_
      refine brP_split (fun h3 => ?_) (fun h3 => ?_)
      · have h4 := fin1' h3
        exact fin1 (by rw [← hrow, hat, if_pos h4]; dsimp only; rw [h4])
      · have h4 := fin0' h3
        exact ⟨(k + 1, f S), ⟨hlt, hp S hok, by rw [← hrow, hat, if_neg h4]⟩, by show cs.length - (k + 1) < cs.length - k; omega, Le.same ⟨rfl, rfl, rfl, sint (wrap_nat k (by omega)), trivial⟩⟩
    | three g r1 r2 r3 =>
      refine PIdx.map hget ?_
      refine PFun.call (hdo S hok) ?_
      refine brP_split (fun h3 => ?_) (fun h3 => ?_)
      · have h4 := fin1' h3
        exact fin1 (by rw [← hrow, hat, if_pos h4]; dsimp only; rw [h4])
      · have h4 := fin0' h3
        exact ⟨(k + 1, f S), ⟨hlt, hp S hok, by rw [← hrow, hat, if_neg h4]⟩, by show cs.length - (k + 1) < cs.length - k; omega, Le.same ⟨rfl, rfl, rfl, sint (wrap_nat k (by omega)), trivial⟩⟩
  · have hge : k = cs.length := by simp at h; omega
    subst hge
    rw [List.drop_of_length_le (Nat.le_refl _)] at hrow
    exact fin1 (by rw [← hrow]; rfl)
theorem okS_step (a : Int) (l : List Tk) (p : Tk → Bool) (S : List Int) (h : OkS a S) : OkS a (stepS l p S) := fun x hx => by
  obtain ⟨i, h1, _, rfl⟩ := mem_stepS.1 hx
  have := h i h1
  omega
/-! ### what is held against tokens -/
def wordC (l : List Tk) (mt : D) (s : Str) : Cl := .two 112 [.ptr (mtR l mt)] [.str s]
def calledC (l : List Tk) (mt : D) (s : Str) : Cl := .two 113 [.ptr (mtR l mt)] [.str s]
theorem word_does {a : Int} (h0 : 0 ≤ a) (l : List Tk) (mt : D) (hl : l.length < 1073741824) (s : Str) : (wordC l mt s).Does a (stepS l (isS s)) := ⟨okS_step a l _, fun S hS => gword1_c l mt hl s S fun i hi => Int.le_trans h0 (hS i hi)⟩
theorem called_does {a : Int} (h0 : 0 ≤ a) (l : List Tk) (mt : D) (hl : l.length < 1073741824) (s : Str) : (calledC l mt s).Does a (stepS l (isN s)) := ⟨okS_step a l _, fun S hS => gcalled1_c l mt hl s S fun i hi => Int.le_trans h0 (hS i hi)⟩
def pairL (l : List Tk) (mt : D) (a b : Str) : List (Cl × PS) := [(calledC l mt a, stepS l (isN a)), (wordC l mt [46], stepS l (isS [46])), (calledC l mt b, stepS l (isN b))]
theorem pair1_c (l : List Tk) (mt : D) (hl : l.length < 1073741824) (a b : Str) (S : List Int) (hS : OkS 0 S) :
    PFun Tryz.prog 142 [.d (.set S), .iptr [.ptr (mtR l mt)], .iptr [.str a], .iptr [.str b]] [] (.d (.set (rowS (pairL l mt a b) S))) [] := by
  refine fn_sem pok 17 0 Tryz.func142 (by kernel_rfl) rfl rfl rfl rfl ?_
  refine SWp.go pok (by kernel_rfl) ?_
  refine ⟨_, _, gcalled_c l mt a, ?_⟩
  refine ⟨_, _, gword_c l mt [46], ?_⟩
  refine ⟨_, _, gcalled_c l mt b, ?_⟩
  refine ⟨_, _, row_c 0 (pairL l mt a b) (by simp [pairL]) (fun c hc => ?_) S hS, ?_⟩
  · simp only [pairL, List.mem_cons, List.not_mem_nil, or_false] at hc
    rcases hc with rfl | rfl | rfl
    · exact called_does (Int.le_refl 0) l mt hl a
    · exact word_does (Int.le_refl 0) l mt hl [46]
    · exact called_does (Int.le_refl 0) l mt hl b
  exact ⟨rfl, rfl⟩
end Go.Proofs.YtmflfcbebeikcaaGreat.Q

namespace Go.Proofs.YtmflfcbebeikcaaGreat.Q
open Go.RowKit
variable [Amb]
/-- Over all places of a set. -/
def atS (F : Int → List Int) (S : List Int) : List Int := S.foldr (fun i acc => unS acc (F i)) []
theorem mem_atS {F : Int → List Int} {x : Int} : ∀ {S : List Int}, x ∈ atS F S ↔ ∃ i, i ∈ S ∧ x ∈ F i
  | [] => by simp [atS]
  | i :: r => by
    show x ∈ unS (atS F r) (F i) ↔ _
    rw [mem_unS, mem_atS]
    constructor
    · rintro (h | ⟨j, h1, h2⟩)
      · exact ⟨i, List.mem_cons_self, h⟩
      · exact ⟨j, List.mem_cons_of_mem _ h1, h2⟩
    · rintro ⟨j, h1, h2⟩
      rcases List.mem_cons.1 h1 with rfl | h1
      · exact .inl h2
      · exact .inr ⟨j, h1, h2⟩
theorem srt_atS (F : Int → List Int) : ∀ S, Srt (atS F S)
  | [] => List.Pairwise.nil
  | i :: r => srt_unS (srt_atS F r) _
theorem atS_all {F : Int → List Int} {S seen : List Int} (h1 : ∀ k, k ∈ seen → k ∈ S) (h2 : ∀ k, k ∈ S → k ∈ seen) : atS F seen = atS F S :=
  srt_ext (srt_atS F _) (srt_atS F _) fun x => by
    rw [mem_atS, mem_atS]
    exact ⟨fun ⟨i, g1, g2⟩ => ⟨i, h1 i g1, g2⟩, fun ⟨i, g1, g2⟩ => ⟨i, h2 i g1, g2⟩⟩
def rowF : List PS → PS
  | [], S => S
  | f :: r, S => if f S = [] then [] else rowF r (f S)
theorem rowS_F : ∀ (cs : List (Cl × PS)) (S : List Int), rowS cs S = rowF (cs.map Prod.snd) S
  | [], S => rfl
  | c :: r, S => by
    rw [rowS, List.map_cons, rowF]
    split
    · rfl
    · rw [rowS_F r]
abbrev wS (l : List Tk) (s : Str) : PS := stepS l (isS s)
abbrev nS (l : List Tk) (s : Str) : PS := stepS l (isN s)
abbrev iS (l : List Tk) (n : Int) : PS := stepS l (isI n)
/-- In parentheses, wherever there is one; else without. -/
def parE (l : List Tk) (b : Int → PS) : Nat → Int → Int → List Int
  | 0, _, _ => []
  | k + 1, lv, i => unS (if wS l [40] [i] = [] then [] else unS [] (rowF [atS (parE l b k 1), wS l [41]] (wS l [40] [i]))) (b lv [i])
/-- Where an expression ends that begins at a place. -/
def endsF (l : List Tk) (b : Int → PS) (lv : Int) (i : Int) : List Int := parE l b (l.length + 1 - i.toNat) lv i
/-- How an expression is made of two parts: its level, its sign, the levels of the parts. -/
def ruleS (op : Int) : Int × Str × Int × Int :=
  if op = 17 then (1, [124, 124], 1, 2) else if op = 16 then (2, [38, 38], 2, 3) else if op = 10 then (4, [61, 61], 5, 5) else if op = 11 then (4, [33, 61], 5, 5)
  else if op = 12 then (4, [60], 5, 5) else if op = 13 then (4, [60, 61], 5, 5) else if op = 14 then (4, [62], 5, 5) else if op = 15 then (4, [62, 61], 5, 5)
  else if op = 8 then (5, [43], 5, 6) else if op = 9 then (5, [45], 5, 6) else (0, [], 0, 0)
/-- An expression without parentheses of its own; F: where its parts end. -/
def bareB (l : List Tk) (op : Int) (mon name : Str) (n : Int) (F : List (Int → Int → List Int)) (lv : Int) (S : List Int) : List Int :=
  let at_ := fun (k : Nat) (lv : Int) => atS ((F.getD k fun _ _ => []) lv)
  if op = 1 then iS l n S
  else if op = 2 then wS l [116, 114, 117, 101] S
  else if op = 3 then wS l [102, 97, 108, 115, 101] S
  else if op = 4 then rowF [nS l mon, wS l [46], nS l name] S
  else if op = 6 then rowF [wS l [45], at_ 0 6] S
  else if op = 7 then rowF [wS l [42], at_ 0 6] (iS l n S)
  else if op = 5 then (if lv > 3 then [] else rowF [wS l [33], at_ 0 3] S)
  else if (ruleS op).1 < lv then [] else rowF [at_ 0 (ruleS op).2.2.1, wS l (ruleS op).2.1, at_ 1 (ruleS op).2.2.2] S
mutual
def bareE (l : List Tk) : Ex → Int → PS
  | ⟨op, mon, name, n, kids, _⟩ => bareB l op mon name n (bareEs l kids)
def bareEs (l : List Tk) : List Ex → List (Int → Int → List Int)
  | [] => []
  | x :: r => endsF l (bareE l x) :: bareEs l r
end
def endsE (l : List Tk) (e : Ex) : Int → Int → List Int := endsF l (bareE l e)
theorem bareEs_map (l : List Tk) : ∀ xs : List Ex, bareEs l xs = xs.map (endsE l)
  | [] => by rw [bareEs]; rfl
  | x :: r => by rw [bareEs, bareEs_map l r]; rfl
theorem bareE_eq (l : List Tk) (e : Ex) : bareE l e = bareB l e.op e.mon e.name e.n (e.kids.map (endsE l)) := by
  cases e; rw [bareE, bareEs_map]
theorem srt_parE (l : List Tk) (b : Int → PS) (k : Nat) (lv i : Int) : Srt (parE l b k lv i) := by
  cases k with
  | zero => exact List.Pairwise.nil
  | succ k =>
    refine srt_unS ?_ _
    split
    · exact List.Pairwise.nil
    · exact srt_unS List.Pairwise.nil _
theorem endsF_eq (l : List Tk) (b : Int → PS) (lv i : Int) (hi : 0 ≤ i) (hb : ¬ i < l.length → b lv [i] = []) : endsF l b lv i = unS (if wS l [40] [i] = [] then [] else unS [] (rowF [atS (endsF l b 1), wS l [41]] (wS l [40] [i]))) (b lv [i]) := by
  unfold endsF
  by_cases hlt : i < l.length
  · rw [show l.length + 1 - i.toNat = (l.length - i.toNat) + 1 by omega]
    rw [parE]
    congr 1
    by_cases hw : wS l [40] [i] = []
    · rw [if_pos hw, if_pos hw]
    · rw [if_neg hw, if_neg hw]
      have hs : wS l [40] [i] = [i + 1] := by
        unfold wS stepS at hw ⊢
        split
        · rfl
        · rename_i h; rw [if_neg h] at hw; exact absurd rfl hw
      have e : atS (parE l b (l.length - i.toNat) 1) (wS l [40] [i]) = atS (fun i => parE l b (l.length + 1 - i.toNat) 1 i) (wS l [40] [i]) := by
        rw [hs]
        show unS [] (parE _ _ _ _ _) = unS [] (parE _ _ _ _ _)
        rw [show l.length + 1 - (i + 1).toNat = l.length - i.toNat by omega]
      congr 1
      unfold rowF
      rw [e]
  · have hw : wS l [40] [i] = [] := by
      unfold wS stepS
      rw [if_neg]
      · rfl
      · unfold okAt
        rw [List.getElem?_eq_none (by omega)]
        simp
    rw [if_pos hw, hb hlt]
    cases l.length + 1 - i.toNat with
    | zero => rfl
    | succ k => rw [parE, if_pos hw, hb hlt]
/-! ### what is found nowhere -/
theorem step_end (l : List Tk) (p : Tk → Bool) {i : Int} (hi : ¬ i < l.length) : stepS l p [i] = [] := by
  unfold stepS
  rw [if_neg]
  · rfl
  · unfold okAt
    rw [List.getElem?_eq_none (by omega)]
    simp
theorem rowF_nil {f : PS} {fs : List PS} {S : List Int} (h : f S = []) : rowF (f :: fs) S = [] := by rw [rowF, if_pos h]
theorem at1 (F : Int → List Int) (i : Int) (h : F i = []) : atS F [i] = [] := by
  show unS [] (F i) = []
  rw [h]; rfl
end Go.Proofs.YtmflfcbebeikcaaGreat.Q

namespace Go.Proofs.YtmflfcbebeikcaaGreat.Q
open Go.RowKit
variable [Amb]
mutual
/-- An expression's cells, and its parts. -/
def ndRow : Ex → List D
  | ⟨op, mon, name, n, kids, pl⟩ => [.int .i64 op, .str mon, .str name, .int .i64 n, .sl (Ex.es kids), .int .i64 pl, .sl (ndRows kids)]
def ndRows : List Ex → List (List D)
  | [] => []
  | x :: r => [.nptr (ndRow x)] :: ndRows r
end
theorem ndRows_map : ∀ l : List Ex, ndRows l = l.map fun x => [.nptr (ndRow x)]
  | [] => by rw [ndRows]; rfl
  | x :: r => by rw [ndRows, ndRows_map r]; rfl
abbrev ndC (x : Ex) : List D := [.nptr (ndRow x)]
theorem ndRow_eq (e : Ex) : ndRow e = [.int .i64 e.op, .str e.mon, .str e.name, .int .i64 e.n, .sl (e.kids.map Ex.e), .int .i64 e.pl, .sl (e.kids.map ndC)] := by
  cases e; rw [ndRow, ndRows_map, Ex.es_map]
abbrev ndV (e : Ex) : V := .d (.nptr (ndRow e))
theorem RL_nd (l : List Ex) : RL (l.map ndC) 1 := fun r hr => by obtain ⟨t, _, rfl⟩ := List.mem_map.1 hr; rfl
theorem nodes_c : ∀ (n : Nat) (e : Ex), e.pre.length ≤ n → (∀ y ∈ e.pre, y.kids.length < 1073741824) → PFun Tryz.prog 58 [e.v] [] (ndV e) []
  | 0, e, hn, _ => by have := e.pre_pos; omega
  | n + 1, e, hn, hk => by
    have hk0 := hk e (by rw [e.pre_eq]; exact List.mem_cons_self)
    have ih : ∀ x ∈ e.kids, PFun Tryz.prog 58 [x.v] [] (ndV x) [] := fun x hx => nodes_c n x (by have := Ex.pre_kid hx; omega) fun y hy => hk y (by
      rw [e.pre_eq, Ex.pres_map]
      exact List.mem_cons_of_mem _ (List.mem_flatMap.2 ⟨x, hx, hy⟩))
    refine fn_sem pok 29 0 Tryz.func58 (by kernel_rfl) rfl rfl rfl rfl ?_
    refine SWp.then pok (by kernel_rfl) ?_
    refine SWp.then pok (by kernel_rfl) ?_
    refine SWp.then pok (by kernel_rfl) ?_
    refine SWp.tipBox 1 6 1 rfl rfl ?_
    refine SWp.loop (fun q : Nat × List (List D) => q.1 ≤ e.kids.length ∧ q.2 = (e.kids.take q.1).map ndC)
      (fun q => ([(1, .ptr 0 0), (3, .ptr 1 0), (10, .d (.sl (e.kids.map Ex.e))), (11, iv e.kids.length), (12, iv q.1)], [.box e.cells, .box [iv e.op, sv' e.mon, sv' e.name, iv e.n, .d (.sl (e.kids.map Ex.e)), iv e.pl, .gsl q.2 2], .tip 1 q.1])) (fun q => e.kids.length - q.1) (0, []) ⟨Nat.zero_le _, rfl⟩ (Le.same ⟨rfl, rfl, rfl, sint (by rw [List.length_map]), rfl, trivial⟩) (fun q hq => ?_)
    obtain ⟨k, rows⟩ := q
    obtain ⟨hle, hrw⟩ := hq
    dsimp only at hle hrw
    refine SWp.go pok (by kernel_rfl) ?_
    refine brP_split (fun h => ?_) (fun h => ?_)
    · have hlt : k < e.kids.length := by simpa using h
      have hlen : rows.length = k := by rw [hrw, List.length_map, List.length_take]; omega
      refine PIdx.ex hlt ?_
      refine ⟨_, _, ih _ (List.getElem_mem hlt), ?_⟩
      refine ⟨⟨by rw [hlen], by rw [hrw]; exact RL_nd _, fun r hr => by simp at hr; subst hr; rfl, by simp [hlen]; omega⟩, ?_⟩
      refine ⟨(k + 1, rows ++ [ndC e.kids[k]]), ⟨hlt, by dsimp only; rw [hrw, take_snoc e.kids k hlt, List.map_append]; rfl⟩, by show e.kids.length - (k + 1) < e.kids.length - k; omega, .inr ⟨[0, 1, 2], ⟨rfl, rfl⟩, ?_, rfl, rfl, rfl, rfl, sint (wrap_nat k (by omega)), trivial⟩⟩
      simp only [List.length_append, List.length_set, List.length_replicate, hlen]
      rfl
    · have hge : k = e.kids.length := by simp at h; omega
      subst hge
      rw [List.take_length] at hrw
      subst hrw
      refine SWp.frzN 1 rfl rfl ?_
      refine SWp.go pok (by kernel_rfl) ?_
      exact ⟨by rw [ndV, ndRow_eq], rfl⟩
end Go.Proofs.YtmflfcbebeikcaaGreat.Q

namespace Go.Proofs.YtmflfcbebeikcaaGreat.Q
open Go.RowKit
/-! ### data told by memory -/
theorem bytes_eq {s t : List UInt8} (h : (⟨s.toArray⟩ : ByteArray) = ⟨t.toArray⟩) : s = t := by
  injection h with h
  have := congrArg Array.toList h
  simpa using this
theorem repRow_cons {G : Imm} {b o : Nat} {d : D} {ds : List D} (h : repRow G b o (d :: ds)) : (∃ u, G b o = some u ∧ d.rep G u) ∧ repRow G b (o + 1) ds := h
theorem int_inj {G : Imm} {b o : Nat} {k : IntKind} {x y : Int} (h : ∃ u, G b o = some u ∧ (D.int k x).rep G u) (h' : ∃ u, G b o = some u ∧ (D.int k y).rep G u) : x = y := by
  obtain ⟨u, h1, h2⟩ := h
  obtain ⟨v, g1, g2⟩ := h'
  rw [h1] at g1; injection g1 with g1; subst g1
  have h2 : u = .int k x := h2
  have g2 : u = .int k y := g2
  rw [h2] at g2; injection g2
theorem str_inj {G : Imm} {b o : Nat} {x y : Str} (h : ∃ u, G b o = some u ∧ (D.str x).rep G u) (h' : ∃ u, G b o = some u ∧ (D.str y).rep G u) : x = y := by
  obtain ⟨u, h1, h2⟩ := h
  obtain ⟨v, g1, g2⟩ := h'
  rw [h1] at g1; injection g1 with g1; subst g1
  have h2 : u = .string ⟨x.toArray⟩ := h2
  have g2 : u = .string ⟨y.toArray⟩ := g2
  rw [h2] at g2; injection g2 with g2
  exact bytes_eq g2
/-- Slices of equal width tell their rows, if each row does. -/
theorem sl_inj {G : Imm} {α : Type} {f : α → List D} {w : Nat} {xs ys : List α} {v : Value} (hf : ∀ x, (f x).length = w) (h : (D.sl (xs.map f)).rep G v) (h' : (D.sl (ys.map f)).rep G v)
    (hi : ∀ x ∈ xs, ∀ (y : α) (b o : Nat), repRow G b o (f x) → repRow G b o (f y) → x = y) : xs = ys := by
  obtain ⟨A, c, e, hc, h1⟩ := h
  obtain ⟨A', c', e', hc', h1'⟩ := h'
  rw [e] at e'
  injection e' with e1 e2 e3
  rw [List.length_map, List.length_map] at e2
  subst e1
  by_cases hn : xs = []
  · subst hn
    exact (List.length_eq_zero_iff.1 (by simpa using e2.symm)).symm
  · have hn' : ys ≠ [] := fun hy => by
      subst hy
      exact hn (List.length_eq_zero_iff.1 (by simpa using e2))
    obtain ⟨b, o, w1, hA, hr⟩ := h1 (by simpa using hn)
    obtain ⟨b', o', w2, hA', hr'⟩ := h1' (by simpa using hn')
    rw [hA] at hA'
    injection hA' with hA'; injection hA' with hb ho _
    subst hb; subst ho
    have hw1 : w1 = w := by
      obtain ⟨x, hx⟩ := List.exists_mem_of_ne_nil xs hn
      rw [← repRows_len hr (f x) (List.mem_map.2 ⟨x, hx, rfl⟩), hf]
    have hw2 : w2 = w := by
      obtain ⟨x, hx⟩ := List.exists_mem_of_ne_nil ys hn'
      rw [← repRows_len hr' (f x) (List.mem_map.2 ⟨x, hx, rfl⟩), hf]
    subst hw1; subst hw2
    refine List.ext_getElem? fun i => ?_
    by_cases hi' : i < xs.length
    · have hy : i < ys.length := by omega
      rw [List.getElem?_eq_getElem hi', List.getElem?_eq_getElem hy]
      have r1 := (repRows_get hr i (f xs[i]) (by simp [hi'])).2
      have r2 := (repRows_get hr' i (f ys[i]) (by simp [hy])).2
      rw [hi _ (List.getElem_mem hi') _ _ _ r1 r2]
    · rw [List.getElem?_eq_none (by omega), List.getElem?_eq_none (by omega)]
section
variable [Amb]
theorem Ex.e_len (x : Ex) : x.e.length = 6 := by rw [x.e_eq]; rfl
theorem Ex.e_inj {G : Imm} : ∀ (n : Nat) (x y : Ex) (b o : Nat), x.pre.length ≤ n → repRow G b o x.e → repRow G b o y.e → x = y
  | 0, x, y, b, o, hn, _, _ => by have := x.pre_pos; omega
  | n + 1, x, y, b, o, hn, h, h' => by
    rw [x.e_eq] at h
    rw [y.e_eq] at h'
    obtain ⟨a1, a2, a3, a4, ⟨u, u1, u2⟩, a6, _⟩ := h
    obtain ⟨b1, b2, b3, b4, ⟨v, v1, v2⟩, b6, _⟩ := h'
    rw [u1] at v1; injection v1 with v1; subst v1
    have hk := sl_inj Ex.e_len u2 v2 fun z hz y b o h1 h2 => Ex.e_inj n z y b o (by have := Ex.pre_kid hz; omega) h1 h2
    cases x; cases y
    simp only at a1 a2 a3 a4 a6 b1 b2 b3 b4 b6 hk
    rw [int_inj a1 b1, str_inj a2 b2, str_inj a3 b3, int_inj a4 b4, hk, int_inj a6 b6]
theorem nd_inj {G : Imm} {x y : Ex} {b o : Nat} (h : repRow G b o (ndRow x)) (h' : repRow G b o (ndRow y)) : x = y := by
  rw [ndRow_eq] at h h'
  have t := repRow_take h 6
  have t' := repRow_take h' 6
  refine Ex.e_inj (G := G) _ x y b o (Nat.le_refl _) ?_ ?_
  · rw [x.e_eq]; exact t
  · rw [y.e_eq]; exact t'
end
theorem tk_inj {G : Imm} {x y : Tk} {b o : Nat} (h : repRow G b o x.c) (h' : repRow G b o y.c) : x = y := by
  obtain ⟨a1, a2, a3, a4, _⟩ := h
  obtain ⟨b1, b2, b3, b4, _⟩ := h'
  cases x; cases y
  simp only at a1 a2 a3 a4 b1 b2 b3 b4
  rw [int_inj a1 b1, str_inj a2 b2, int_inj a3 b3, int_inj a4 b4]
theorem toks_inj {G : Imm} {l m : List Tk} {u : Value} (h : (D.sl (l.map Tk.c)).rep G u) (h' : (D.sl (m.map Tk.c)).rep G u) : l = m :=
  sl_inj (w := 4) (fun _ => rfl) h h' fun x _ y b o h1 h2 => tk_inj h1 h2
/-! ### what is remembered -/
def gramMemo (G : Imm) (u k v : Value) : Prop := ∃ (l : List Tk) (e : Ex) (lv i : Int) (p : Value), (D.sl (l.map Tk.c)).rep G u ∧ (D.nptr (ndRow e)).rep G p ∧ k = .agg #[p, .int .i64 lv, .int .i64 i] ∧ (D.set (endsE l e lv i)).rep G v
theorem gramMemo_mono {G G' : Imm} {u k v : Value} (h : G.le G') (hm : gramMemo G u k v) : gramMemo G' u k v := by
  obtain ⟨l, e, lv, i, p, h1, h2, h3, h4⟩ := hm
  exact ⟨l, e, lv, i, p, D.rep_mono h _ _ h1, D.rep_mono h _ _ h2, h3, D.rep_mono h _ _ h4⟩
def spotV (e : Ex) (lv i : Int) : V := .agg [ndV e, iv lv, iv i]
theorem spot_rep {G : Imm} {φ : Loc} {e : Ex} {lv i : Int} {k : Value} (h : (spotV e lv i).rep G φ k) : ∃ p, (D.nptr (ndRow e)).rep G p ∧ k = .agg #[p, .int .i64 lv, .int .i64 i] := by
  obtain ⟨us, rfl, ⟨p, _, rfl, h1, u2, _, rfl, h2, u3, _, rfl, h3, h4⟩, _⟩ := h
  have h2 : u2 = .int .i64 lv := h2
  have h3 : u3 = .int .i64 i := h3
  have h4 : _ = [] := h4
  subst h2; subst h3; subst h4
  exact ⟨p, h1, rfl⟩
theorem spot_fields : ∃ f1 f2 f3 : Field, Tryz.prog.underlying 154 = some (.struct #[f1, f2, f3]) ∧ f1.name ≠ "_" ∧ f2.name ≠ "_" ∧ f3.name ≠ "_" ∧ f1.offset = 0 ∧ f2.offset = 1 ∧ f3.offset = 2 ∧ f1.type = 120 ∧ f2.type = 3 ∧ f3.type = 3 := by
  have h : (match Tryz.prog.underlying 154 with | some (.struct gs) => some (gs.toList.map fun f => ((f.name == "_"), f.offset, f.type)) | _ => none) = some [(false, 0, 120), (false, 1, 3), (false, 2, 3)] := by kernel_rfl
  split at h
  · rename_i gs hu
    injection h with h
    have hl := congrArg List.length h
    simp at hl
    obtain ⟨l⟩ := gs
    match l, hl with
    | [f1, f2, f3], _ =>
      simp only [List.map_cons, List.map_nil, List.cons.injEq, Prod.mk.injEq, and_true, beq_eq_false_iff_ne] at h
      obtain ⟨⟨a1, a2, a3⟩, ⟨b1, b2, b3⟩, c1, c2, c3⟩ := h
      exact ⟨f1, f2, f3, hu, a1, b1, c1, a2, b2, c2, a3, b3, c3⟩
  · cases h
section
variable [Amb]
theorem run_isAgg_no {P : Program} {w : World} {t : TypeId} {d : TypeDesc} (h : P.underlying t = some d) (hd : (match d with | .struct _ => false | .array _ _ => false | _ => true) = true) : (isAgg t).run P w = .ok false w := by
  unfold isAgg
  rw [Sem.run_bind, run_underlying h]
  cases d <;> first | rfl | (simp at hd)
theorem run_part_one {P : Program} {w : World} {t : TypeId} {d : TypeDesc} (h : P.underlying t = some d) (hd : (match d with | .struct _ => false | .array _ _ => false | _ => true) = true) {cs : Array Value} {o : Nat} {v : Value} (hv : cs[o]? = some v) : (part t cs o).run P w = .ok v w := by
  unfold part
  simp [run_isAgg_no h hd, hv]
theorem und_ptr : Tryz.prog.underlying 120 = some (.pointer 157) := by kernel_rfl
theorem und_int : Tryz.prog.underlying 3 = some (.int .i64) := by kernel_rfl
theorem size_node (w : World) : (sizeOf 157).run Tryz.prog w = .ok 7 w := by
  have h : (Tryz.prog.info? 157).map (·.size) = some 7 := by kernel_rfl
  cases hi : Tryz.prog.info? 157 with
  | none => rw [hi] at h; cases h
  | some i =>
    rw [hi] at h
    have h : i.size = 7 := by injection h
    simp [sizeOf, typeInfo, hi, h]
theorem spot_key (w : World) (p : Value) (lv i : Int) (hp : ∃ a, p = .pointer (some a)) (em : Bool) : (Instr.checkKey em 10000 154 (.agg #[p, .int .i64 lv, .int .i64 i])).run Tryz.prog w = .ok () w := by
  obtain ⟨a, rfl⟩ := hp
  obtain ⟨f1, f2, f3, hu, n1, n2, n3, o1, o2, o3, t1, t2, t3⟩ := spot_fields
  have q1 : (part f1.type #[.pointer (some a), .int .i64 lv, .int .i64 i] f1.offset).run Tryz.prog w = .ok (.pointer (some a)) w := by rw [t1, o1]; exact run_part_one und_ptr rfl rfl
  have q2 : (part f2.type #[.pointer (some a), .int .i64 lv, .int .i64 i] f2.offset).run Tryz.prog w = .ok (.int .i64 lv) w := by rw [t2, o2]; exact run_part_one und_int rfl rfl
  have q3 : (part f3.type #[.pointer (some a), .int .i64 lv, .int .i64 i] f3.offset).run Tryz.prog w = .ok (.int .i64 i) w := by rw [t3, o3]; exact run_part_one und_int rfl rfl
  have k1 : (Instr.checkKey em 9999 f1.type (.pointer (some a))).run Tryz.prog w = .ok () w := by
    rw [t1]
    show (Instr.checkKey em (9998 + 1) _ _).run _ _ = _
    unfold Instr.checkKey
    simp only [Sem.run_bind, run_underlying und_ptr, Result.andThen_ok, Sem.run_pure]
  have k2 : (Instr.checkKey em 9999 f2.type (.int .i64 lv)).run Tryz.prog w = .ok () w := by
    rw [t2]
    show (Instr.checkKey em (9998 + 1) _ _).run _ _ = _
    unfold Instr.checkKey
    simp only [Sem.run_bind, run_underlying und_int, Result.andThen_ok, Sem.run_pure]
  have k3 : (Instr.checkKey em 9999 f3.type (.int .i64 i)).run Tryz.prog w = .ok () w := by
    rw [t3]
    show (Instr.checkKey em (9998 + 1) _ _).run _ _ = _
    unfold Instr.checkKey
    simp only [Sem.run_bind, run_underlying und_int, Result.andThen_ok, Sem.run_pure]
  show (Instr.checkKey em (9999 + 1) _ _).run _ _ = _
  unfold Instr.checkKey
  simp only [Sem.run_bind, run_underlying hu, Result.andThen_ok]
  rw [← Array.forIn_toList]
  simp only [List.forIn_cons, List.forIn_nil, Sem.run_bind, n1, n2, n3, ne_eq, not_false_eq_true, if_true, Result.andThen_ok, q1, q2, q3, k1, k2, k3, Sem.run_pure]
theorem spot_equal (w : World) (a b : Addr) (lv i lv' i' : Int) (hab : ∃ r, (sameAddr a b).run Tryz.prog w = .ok r w ∧ (r = true → a = b)) :
    ∃ r, (Op.equal 154 (.agg #[.pointer (some a), .int .i64 lv, .int .i64 i]) (.agg #[.pointer (some b), .int .i64 lv', .int .i64 i'])).run Tryz.prog w = .ok r w ∧ (r = true → a = b ∧ lv = lv' ∧ i = i') := by
  obtain ⟨f1, f2, f3, hu, n1, n2, n3, o1, o2, o3, t1, t2, t3⟩ := spot_fields
  obtain ⟨r, hr, hr2⟩ := hab
  have hst : Tryz.prog.stoodInHeld 154 = false := by kernel_rfl
  have q : ∀ (a : Addr) (lv i : Int), (part f1.type #[.pointer (some a), .int .i64 lv, .int .i64 i] f1.offset).run Tryz.prog w = .ok (.pointer (some a)) w ∧ (part f2.type #[.pointer (some a), .int .i64 lv, .int .i64 i] f2.offset).run Tryz.prog w = .ok (.int .i64 lv) w ∧ (part f3.type #[.pointer (some a), .int .i64 lv, .int .i64 i] f3.offset).run Tryz.prog w = .ok (.int .i64 i) w :=
    fun a lv i => ⟨by rw [t1, o1]; exact run_part_one und_ptr rfl rfl, by rw [t2, o2]; exact run_part_one und_int rfl rfl, by rw [t3, o3]; exact run_part_one und_int rfl rfl⟩
  obtain ⟨q1, q2, q3⟩ := q a lv i
  obtain ⟨p1, p2, p3⟩ := q b lv' i'
  have k1 : (Op.equalIn 9999 f1.type (.pointer (some a)) (.pointer (some b))).run Tryz.prog w = .ok r w := by
    rw [t1]
    show (Op.equalIn (9998 + 1) _ _ _).run _ _ = _
    unfold Op.equalIn
    simp only [Sem.run_bind, run_underlying und_ptr, Result.andThen_ok, size_node]
    simpa using hr
  have k2 : (Op.equalIn 9999 f2.type (.int .i64 lv) (.int .i64 lv')).run Tryz.prog w = .ok (lv == lv') w := by
    rw [t2]
    show (Op.equalIn (9998 + 1) _ _ _).run _ _ = _
    unfold Op.equalIn
    simp only [Sem.run_bind, run_underlying und_int, Result.andThen_ok]
    rfl
  have k3 : (Op.equalIn 9999 f3.type (.int .i64 i) (.int .i64 i')).run Tryz.prog w = .ok (i == i') w := by
    rw [t3]
    show (Op.equalIn (9998 + 1) _ _ _).run _ _ = _
    unfold Op.equalIn
    simp only [Sem.run_bind, run_underlying und_int, Result.andThen_ok]
    rfl
  refine ⟨r && (lv == lv') && (i == i'), ?_, fun h => ?_⟩
  · show (Op.equalIn (9999 + 1) _ _ _).run _ _ = _
    unfold Op.equalIn
    simp only [Sem.run_bind, run_underlying hu, Result.andThen_ok, run_program, hst, Bool.false_eq_true, if_false]
    rw [← Array.forIn_toList]
    cases r <;> cases h1 : (lv == lv') <;> cases h2 : (i == i') <;>
      simp [List.forIn_cons, List.forIn_nil, n1, n2, n3, q1, q2, q3, p1, p2, p3, k1, k2, k3, h1, h2]
  · simp only [Bool.and_eq_true, beq_iff_eq] at h
    exact ⟨hr2 h.1.1, h.1.2, h.2⟩
theorem nptr_same {G : Imm} {w : World} (hi : Inv G w) {r r' : List D} {p p' : Value} (h : (D.nptr r).rep G p) (h' : (D.nptr r').rep G p') :
    ∃ a b : Addr, p = .pointer (some a) ∧ p' = .pointer (some b) ∧ ∃ q, (sameAddr a b).run Tryz.prog w = .ok q w ∧ (q = true → a = b) := by
  obtain ⟨b, o, rfl, _, n, hn⟩ := h
  obtain ⟨b', o', rfl, _, n', hn'⟩ := h'
  refine ⟨_, _, rfl, rfl, ?_⟩
  by_cases he : (⟨b, o, none⟩ : Addr) = ⟨b', o', none⟩
  · rw [he]
    exact ⟨true, run_sameAddr_same w _, fun _ => rfl⟩
  · obtain ⟨cs, T, h1⟩ := plain_at hi hn
    obtain ⟨cs', T', h2⟩ := plain_at hi hn'
    exact ⟨false, run_sameAddr_other w he h1 h2, fun h => by cases h⟩
theorem gram_eq {G : Imm} {w : World} (hi : Inv G w) {e : Ex} {lv i : Int} {p k' u v' : Value} {l : List Tk} (hp : (D.nptr (ndRow e)).rep G p) (hu : (D.sl (l.map Tk.c)).rep G u) (h : gramMemo G u k' v') :
    ∃ b, (Op.equal 154 (.agg #[p, .int .i64 lv, .int .i64 i]) k').run Tryz.prog w = .ok b w ∧ (b = true → k' = .agg #[p, .int .i64 lv, .int .i64 i] ∧ (D.set (endsE l e lv i)).rep G v') := by
  obtain ⟨l', e', lv', i', p', h1, h2, rfl, h4⟩ := h
  obtain ⟨a, b, e1, e2, hq⟩ := nptr_same hi hp h2
  subst e1; subst e2
  obtain ⟨r, r1, r2⟩ := spot_equal w a b lv i lv' i' hq
  refine ⟨r, r1, fun hr => ?_⟩
  obtain ⟨rfl, rfl, rfl⟩ := r2 hr
  have hl := toks_inj hu h1
  subst hl
  obtain ⟨b1, o1, x1, y1, _⟩ := hp
  obtain ⟨b2, o2, x2, y2, _⟩ := h2
  rw [x1] at x2
  injection x2 with x2; injection x2 with x2; injection x2 with x2 x3
  subst x2; subst x3
  have he := nd_inj y1 y2
  subst he
  exact ⟨rfl, h4⟩
theorem gram_look (hM : @Amb.memo _ = gramMemo) (l : List Tk) (e : Ex) (lv i : Int) : MLook Tryz.prog 154 (.sl (l.map Tk.c)) (spotV e lv i) (.set (endsE l e lv i)) := by
  intro G w φ u k hi hu hk
  obtain ⟨p, hp, rfl⟩ := spot_rep hk
  have hp' := hp
  obtain ⟨b, o, rfl, _⟩ := hp'
  refine ⟨fun em => spot_key w _ lv i ⟨_, rfl⟩ em, fun k' v' hm => ?_⟩
  rw [hM] at hm
  obtain ⟨r, r1, r2⟩ := gram_eq hi (lv := lv) (i := i) hp hu hm
  exact ⟨r, r1, fun h => (r2 h).2⟩
theorem gram_up (hM : @Amb.memo _ = gramMemo) (l : List Tk) (e : Ex) (lv i : Int) : MUp Tryz.prog 154 (.sl (l.map Tk.c)) (spotV e lv i) (.d (.set (endsE l e lv i))) := by
  intro G w φ u k z hi hu hk hz
  obtain ⟨p, hp, rfl⟩ := spot_rep hk
  have hp' := hp
  obtain ⟨b, o, rfl, _⟩ := hp'
  refine ⟨fun em => spot_key w _ lv i ⟨_, rfl⟩ em, ?_, ?_, fun k' v' hm => ?_⟩
  · show Instr.sameBits (9999 + 1) _ _ = true
    simp [Instr.sameBits]
  · rw [hM]
    exact ⟨l, e, lv, i, _, hu, hp, rfl, hz⟩
  · rw [hM] at hm
    obtain ⟨r, r1, r2⟩ := gram_eq hi (lv := lv) (i := i) hp hu hm
    exact ⟨r, r1, fun h => (r2 h).1⟩
end
end Go.Proofs.YtmflfcbebeikcaaGreat.Q

namespace Go.Proofs.YtmflfcbebeikcaaGreat.Q
open Go.RowKit
variable [Amb]
abbrev TR := List Tk → Prop
/-- One behind the other. -/
def then2 (R Q : TR) : TR := fun ts => ∃ u v, ts = u ++ v ∧ R u ∧ Q v
def seqR : List TR → TR
  | [] => fun ts => ts = []
  | R :: Rs => then2 R (seqR Rs)
def one (p : Tk → Bool) : TR := fun ts => ∃ t, ts = [t] ∧ p t = true
def SpecF (l : List Tk) (F : Int → List Int) (R : TR) : Prop := ∀ (a : Nat) (j : Int), j ∈ F (a : Int) ↔ ∃ ts, ts <+: l.drop a ∧ R ts ∧ j = a + ts.length
def SpecS (l : List Tk) (f : PS) (R : TR) : Prop := ∀ S, OkS 0 S → ∀ j : Int, j ∈ f S ↔ ∃ a : Nat, (a : Int) ∈ S ∧ ∃ ts, ts <+: l.drop a ∧ R ts ∧ j = a + ts.length
theorem pre_app {l u v : List Tk} {a : Nat} : u ++ v <+: l.drop a ↔ u <+: l.drop a ∧ v <+: l.drop (a + u.length) := by
  constructor
  · rintro ⟨w, hw⟩
    refine ⟨⟨v ++ w, by rw [← hw, List.append_assoc]⟩, ⟨w, ?_⟩⟩
    rw [← List.drop_drop, ← hw, List.append_assoc, List.drop_left]
  · rintro ⟨⟨w, hw⟩, ⟨z, hz⟩⟩
    refine ⟨z, ?_⟩
    rw [← List.drop_drop, ← hw, List.drop_left] at hz
    rw [← hw, ← hz, List.append_assoc]
theorem pre_one {l : List Tk} {t : Tk} {a : Nat} : [t] <+: l.drop a ↔ l[a]? = some t := by
  constructor
  · rintro ⟨w, hw⟩
    have := congrArg List.head? hw
    simpa using this.symm
  · intro h
    obtain ⟨h1, rfl⟩ := List.getElem?_eq_some_iff.1 h
    exact ⟨l.drop (a + 1), by rw [List.drop_eq_getElem_cons h1]; rfl⟩
theorem SpecS.ok {l : List Tk} {f : PS} {R : TR} (h : SpecS l f R) {S : List Int} (hS : OkS 0 S) : OkS 0 (f S) := fun j hj => by
  obtain ⟨a, _, ts, _, _, rfl⟩ := (h S hS j).1 hj
  omega
theorem SpecS.mono {l : List Tk} {f : PS} {R : TR} (h : SpecS l f R) {b : Int} (h0 : 0 ≤ b) {S : List Int} (hS : OkS b S) : OkS b (f S) := fun j hj => by
  obtain ⟨a, h1, ts, _, _, rfl⟩ := (h S (fun i hi => Int.le_trans h0 (hS i hi)) j).1 hj
  have := hS _ h1
  omega
theorem SpecS.congr {l : List Tk} {f : PS} {R Q : TR} (h : SpecS l f R) (e : ∀ ts, R ts ↔ Q ts) : SpecS l f Q := fun S hS j => by
  rw [h S hS j]
  exact ⟨fun ⟨a, h1, ts, h2, h3, h4⟩ => ⟨a, h1, ts, h2, (e ts).1 h3, h4⟩, fun ⟨a, h1, ts, h2, h3, h4⟩ => ⟨a, h1, ts, h2, (e ts).2 h3, h4⟩⟩
theorem spec_step (l : List Tk) (p : Tk → Bool) : SpecS l (stepS l p) (one p) := fun S hS j => by
  rw [mem_stepS]
  constructor
  · rintro ⟨i, h1, h2, rfl⟩
    have h0 := hS i h1
    have hi : ((i.toNat : Nat) : Int) = i := by omega
    unfold okAt at h2
    split at h2
    · rename_i t ht
      exact ⟨i.toNat, by rw [hi]; exact h1, [t], pre_one.2 ht, ⟨t, rfl, h2⟩, by rw [hi]; rfl⟩
    · cases h2
  · rintro ⟨a, h1, ts, h2, ⟨t, rfl, h3⟩, rfl⟩
    refine ⟨a, h1, ?_, rfl⟩
    unfold okAt
    rw [show ((a : Int).toNat) = a by omega, pre_one.1 h2]
    exact h3
theorem spec_at {l : List Tk} {F : Int → List Int} {R : TR} (h : SpecF l F R) : SpecS l (atS F) R := fun S hS j => by
  rw [mem_atS]
  constructor
  · rintro ⟨i, h1, h2⟩
    have h0 := hS i h1
    have hi : ((i.toNat : Nat) : Int) = i := by omega
    rw [← hi] at h1 h2
    exact ⟨_, h1, (h _ j).1 h2⟩
  · rintro ⟨a, h1, h2⟩
    exact ⟨a, h1, (h a j).2 h2⟩
theorem spec_then {l : List Tk} {f g : PS} {R Q : TR} (hf : SpecS l f R) (hg : SpecS l g Q) : SpecS l (fun S => g (f S)) (then2 R Q) := fun S hS j => by
  rw [hg _ (hf.ok hS)]
  constructor
  · rintro ⟨b, h1, v, h2, h3, rfl⟩
    obtain ⟨a, h4, u, h5, h6, h7⟩ := (hf S hS _).1 h1
    have hb : b = a + u.length := by omega
    subst hb
    exact ⟨a, h4, u ++ v, pre_app.2 ⟨h5, h2⟩, ⟨u, v, rfl, h6, h3⟩, by rw [List.length_append]; omega⟩
  · rintro ⟨a, h1, ts, h2, ⟨u, v, rfl, h3, h4⟩, rfl⟩
    obtain ⟨h5, h6⟩ := pre_app.1 h2
    exact ⟨a + u.length, (hf S hS _).2 ⟨a, h1, u, h5, h3, by omega⟩, v, h6, h4, by rw [List.length_append]; omega⟩
theorem spec_id (l : List Tk) : SpecS l (fun S => S) (seqR []) := fun S hS j => by
  constructor
  · intro h
    have := hS j h
    exact ⟨j.toNat, by rw [show ((j.toNat : Nat) : Int) = j by omega]; exact h, [], List.nil_prefix, rfl, by show j = (j.toNat : Int) + 0; omega⟩
  · rintro ⟨a, h1, ts, _, h3, rfl⟩
    have h3 : ts = [] := h3
    subst h3
    simpa using h1
inductive AllS (l : List Tk) : List PS → List TR → Prop
  | nil : AllS l [] []
  | cons {f : PS} {R : TR} {fs : List PS} {Rs : List TR} (h : SpecS l f R) (k : AllS l fs Rs) : AllS l (f :: fs) (R :: Rs)
theorem spec_row {l : List Tk} : ∀ {fs : List PS} {Rs : List TR}, AllS l fs Rs → SpecS l (rowF fs) (seqR Rs)
  | [], [], _ => spec_id l
  | f :: fs, R :: Rs, h => by
    cases h with
    | cons h1 h2 =>
      have h3 := spec_then h1 (spec_row h2)
      intro S hS j
      have h4 := h3 S hS j
      dsimp only at h4
      show j ∈ rowF (f :: fs) S ↔ _
      rw [rowF]
      by_cases he : f S = []
      · rw [if_pos he]
        rw [he] at h4
        rw [show (j ∈ ([] : List Int)) ↔ False by simp]
        constructor
        · exact fun h => h.elim
        · intro h
          have h5 := h4.2 h
          have h6 := (spec_row h2 [] (fun i hi => by cases hi) j).1 h5
          obtain ⟨a, h7, _⟩ := h6
          cases h7
      · rw [if_neg he]; exact h4
theorem spec_one {l : List Tk} {f : PS} {R : TR} (h : SpecS l f R) (a : Nat) (j : Int) : j ∈ f [(a : Int)] ↔ ∃ ts, ts <+: l.drop a ∧ R ts ∧ j = a + ts.length := by
  rw [h _ (fun i hi => by simp at hi; omega)]
  constructor
  · rintro ⟨b, h1, h2⟩
    have : b = a := by simp at h1; omega
    subst this; exact h2
  · exact fun h => ⟨a, by simp, h⟩
/-! ### parentheses -/
inductive PR (B : Int → TR) : Int → List Tk → Prop
  | bare {lv : Int} {ts : List Tk} (h : B lv ts) : PR B lv ts
  | par {lv : Int} {t u : Tk} {ts : List Tk} (ht : isS [40] t = true) (h : PR B 1 ts) (hu : isS [41] u = true) : PR B lv (t :: (ts ++ [u]))
theorem spec_ends {l : List Tk} {b : Int → PS} {B : Int → TR} (hb : ∀ lv, 1 ≤ lv → SpecS l (b lv) (B lv)) (hne : ∀ lv ts, B lv ts → ts ≠ []) (lv : Int) (hlv1 : 1 ≤ lv) : SpecF l (endsF l b lv) (PR B lv) := by
  have hend : ∀ (lv : Int), 1 ≤ lv → ∀ (a : Nat), ¬ (a : Int) < l.length → b lv [(a : Int)] = [] := fun lv h1 a ha => by
    refine List.eq_nil_iff_forall_not_mem.2 fun j hj => ?_
    obtain ⟨ts, h3, h2, _⟩ := (spec_one (hb lv h1) a j).1 hj
    rw [List.drop_eq_nil_of_le (by omega)] at h3
    exact hne lv ts h2 (List.prefix_nil.1 h3)
  have heq := fun (lv : Int) (h1 : 1 ≤ lv) (a : Nat) => endsF_eq l b lv a (by omega) (hend lv h1 a)
  have hpar : ∀ (lv : Int), 1 ≤ lv → ∀ (a : Nat) (j : Int), j ∈ endsF l b lv a ↔ (∃ t u m, l[a]? = some t ∧ isS [40] t = true ∧ (m : Int) ∈ endsF l b 1 ((a + 1 : Nat) : Int) ∧ 0 ≤ m ∧ l[m.toNat]? = some u ∧ isS [41] u = true ∧ j = m + 1) ∨ j ∈ b lv [(a : Int)] := by
    intro lv hlv a j
    rw [heq lv hlv a, mem_unS]
    have hw : ∀ i, i ∈ wS l [40] [(a : Int)] ↔ i = (a : Int) + 1 ∧ ∃ t, l[a]? = some t ∧ isS [40] t = true := fun i => by
      rw [spec_one (spec_step l (isS [40])) a i]
      constructor
      · rintro ⟨ts, h1, ⟨t, rfl, h2⟩, rfl⟩; exact ⟨rfl, t, pre_one.1 h1, h2⟩
      · rintro ⟨rfl, t, h1, h2⟩; exact ⟨[t], pre_one.2 h1, ⟨t, rfl, h2⟩, rfl⟩
    constructor
    · rintro (h | h)
      · exact .inr h
      · split at h
        · cases h
        · rename_i hn
          rw [mem_unS] at h
          rcases h with h | h
          · have hr : j ∈ wS l [41] (atS (endsF l b 1) (wS l [40] [(a : Int)])) := by
              unfold rowF at h
              split at h
              · cases h
              · unfold rowF at h
                split at h
                · cases h
                · unfold rowF at h; exact h
            obtain ⟨m, h1, h2, rfl⟩ := mem_stepS.1 hr
            obtain ⟨i, h3, h4⟩ := mem_atS.1 h1
            obtain ⟨rfl, t, h5, h6⟩ := (hw i).1 h3
            unfold okAt at h2
            split at h2
            · rename_i u hu
              by_cases hm : 0 ≤ m
              · exact .inl ⟨t, u, m, h5, h6, by rw [show ((a + 1 : Nat) : Int) = (a : Int) + 1 by omega]; exact h4, hm, hu, h2, rfl⟩
              · exfalso
                have hge : ∀ (k : Nat) (lv i m : Int), 1 ≤ lv → 0 ≤ i → m ∈ parE l b k lv i → 0 ≤ m := by
                  intro k
                  induction k with
                  | zero => intro lv i m _ _ hm; cases hm
                  | succ k ih =>
                    intro lv i m hlv hi hm
                    rw [parE, mem_unS] at hm
                    rcases hm with hm | hm
                    · obtain ⟨a', _, ts, _, _, rfl⟩ := (hb lv hlv [i] (fun x hx => by simp at hx; omega) m).1 hm
                      omega
                    · split at hm
                      · cases hm
                      · rw [mem_unS] at hm
                        rcases hm with hm | hm
                        · have hs := SpecS.ok (spec_step l (isS [41])) (S := atS (parE l b k 1) (wS l [40] [i])) (fun x hx => by
                            obtain ⟨y, y1, y2⟩ := mem_atS.1 hx
                            exact ih 1 y x (Int.le_refl 1) (SpecS.ok (spec_step l (isS [40])) (S := [i]) (fun x hx => by simp at hx; omega) y y1) y2)
                          refine hs m ?_
                          unfold rowF at hm
                          split at hm
                          · cases hm
                          · unfold rowF at hm
                            split at hm
                            · cases hm
                            · unfold rowF at hm; exact hm
                        · cases hm
                exact hm (hge _ 1 _ m (Int.le_refl 1) (by omega) h4)
            · cases h2
          · cases h
    · rintro (⟨t, u, m, h1, h2, h3, hm, h4, h5, rfl⟩ | h)
      · refine .inr ?_
        have hi := (hw ((a : Int) + 1)).2 ⟨rfl, t, h1, h2⟩
        have hma : m ∈ atS (endsF l b 1) (wS l [40] [(a : Int)]) := mem_atS.2 ⟨_, hi, by rw [show ((a + 1 : Nat) : Int) = (a : Int) + 1 by omega] at h3; exact h3⟩
        have hj : m + 1 ∈ wS l [41] (atS (endsF l b 1) (wS l [40] [(a : Int)])) := mem_stepS.2 ⟨m, hma, by unfold okAt; rw [h4]; exact h5, rfl⟩
        rw [if_neg (fun e => by rw [e] at hi; cases hi), mem_unS]
        refine .inl ?_
        unfold rowF
        rw [if_neg (fun e => by rw [e] at hma; cases hma)]
        unfold rowF
        rw [if_neg (fun e => by rw [e] at hj; cases hj)]
        unfold rowF
        exact hj
      · exact .inl h
  have fwd : ∀ (k : Nat) (a : Nat), l.length - a ≤ k → ∀ (lv j : Int), 1 ≤ lv → j ∈ endsF l b lv a → ∃ ts, ts <+: l.drop a ∧ PR B lv ts ∧ j = a + ts.length := by
    intro k
    induction k with
    | zero =>
      intro a ha lv j hlv hj
      rcases (hpar lv hlv a j).1 hj with ⟨t, u, m, h1, _⟩ | h
      · have := lt_of_get h1; omega
      · obtain ⟨ts, h1, h2, h3⟩ := (spec_one (hb lv hlv) a j).1 h
        exact ⟨ts, h1, .bare h2, h3⟩
    | succ k ih =>
      intro a ha lv j hlv hj
      rcases (hpar lv hlv a j).1 hj with ⟨t, u, m, h1, h2, h3, hm, h4, h5, rfl⟩ | h
      · obtain ⟨ts, g1, g2, g3⟩ := ih (a + 1) (by have := lt_of_get h1; omega) 1 m (Int.le_refl 1) h3
        refine ⟨t :: (ts ++ [u]), ?_, .par h2 g2 h5, by simp; omega⟩
        show [t] ++ (ts ++ [u]) <+: _
        rw [pre_app, pre_app]
        refine ⟨pre_one.2 h1, g1, pre_one.2 ?_⟩
        rw [show a + [t].length + ts.length = m.toNat by simp; omega]
        exact h4
      · obtain ⟨ts, h1, h2, h3⟩ := (spec_one (hb lv hlv) a j).1 h
        exact ⟨ts, h1, .bare h2, h3⟩
  have bwd : ∀ (lv : Int) (ts : List Tk), PR B lv ts → 1 ≤ lv → ∀ a : Nat, ts <+: l.drop a → ((a : Int) + ts.length) ∈ endsF l b lv a := by
    intro lv ts h
    induction h with
    | bare h => intro hlv a ha; exact (hpar _ hlv a _).2 (.inr ((spec_one (hb _ hlv) a _).2 ⟨_, ha, h, rfl⟩))
    | par ht h hu ih =>
      rename_i t u ts
      intro hlv a ha
      rw [show t :: (ts ++ [u]) = [t] ++ (ts ++ [u]) from rfl, pre_app, pre_app] at ha
      obtain ⟨h1, h2, h3⟩ := ha
      have h4 := ih (Int.le_refl 1) (a + 1) h2
      refine (hpar _ hlv a _).2 (.inl ⟨t, u, ((a + 1 : Nat) : Int) + ts.length, pre_one.1 h1, ht, h4, by omega, ?_, hu, by simp; omega⟩)
      have := pre_one.1 h3
      rw [show (((a + 1 : Nat) : Int) + (ts.length : Int)).toNat = a + [t].length + ts.length by simp; omega]
      exact this
  exact fun a j => ⟨fwd _ a (Nat.le_refl _) lv j hlv1, fun ⟨ts, h1, h2, h3⟩ => by rw [h3]; exact bwd lv ts h2 hlv1 a h1⟩
/-! ### expressions -/
def kidR (e : Ex) (k : Nat) (lv : Int) : TR := fun ts => ∃ x d, e.kids[k]? = some x ∧ DE lv.toNat ts x d
/-- Tokens from which an expression is derived, without parentheses of its own. -/
def BR (e : Ex) (lv : Int) : TR :=
  if e.op = 1 then one (isI e.n)
  else if e.op = 2 then one (isS [116, 114, 117, 101])
  else if e.op = 3 then one (isS [102, 97, 108, 115, 101])
  else if e.op = 4 then seqR [one (isN e.mon), one (isS [46]), one (isN e.name)]
  else if e.op = 6 then seqR [one (isS [45]), kidR e 0 6]
  else if e.op = 7 then then2 (one (isI e.n)) (seqR [one (isS [42]), kidR e 0 6])
  else if e.op = 5 then (if lv > 3 then fun _ => False else seqR [one (isS [33]), kidR e 0 3])
  else if (ruleS e.op).1 < lv then fun _ => False else seqR [kidR e 0 (ruleS e.op).2.2.1, one (isS (ruleS e.op).2.1), kidR e 1 (ruleS e.op).2.2.2]
theorem isS_sg {s : Str} {t : Tk} : isS s t = true ↔ t.sg s := by unfold isS Tk.sg; simp
theorem isN_nm {s : Str} {t : Tk} : isN s t = true ↔ t.nm s := by unfold isN Tk.nm; simp
theorem isI_nu {n : Int} {t : Tk} : isI n t = true ↔ t.nu n := by unfold isI Tk.nu; simp
theorem spec_false (l : List Tk) : SpecS l (fun _ => []) (fun _ => False) := fun S hS j => by
  constructor
  · intro h; cases h
  · rintro ⟨_, _, _, _, h, _⟩; exact h.elim
theorem DE.nn {L : Nat} {ts : List Tk} {e : Ex} {d : Nat} (h : DE L ts e d) : ts ≠ [] := by
  obtain ⟨t, us, e, _⟩ := h.head
  rw [e]; simp
theorem ruleS_of {op : Int} : (ruleS op).1 = 0 ∨ ∃ rl l r : Nat, (op, rl, (ruleS op).2.1, l, r) ∈ rules ∧ ruleS op = ((rl : Int), (ruleS op).2.1, (l : Int), (r : Int)) := by
  unfold ruleS rules
  by_cases h1 : op = 17
  · subst h1; exact .inr ⟨1, 1, 2, by simp, by simp⟩
  by_cases h2 : op = 16
  · subst h2; exact .inr ⟨2, 2, 3, by simp, by simp⟩
  by_cases h3 : op = 10
  · subst h3; exact .inr ⟨4, 5, 5, by simp, by simp⟩
  by_cases h4 : op = 11
  · subst h4; exact .inr ⟨4, 5, 5, by simp, by simp⟩
  by_cases h5 : op = 12
  · subst h5; exact .inr ⟨4, 5, 5, by simp, by simp⟩
  by_cases h6 : op = 13
  · subst h6; exact .inr ⟨4, 5, 5, by simp, by simp⟩
  by_cases h7 : op = 14
  · subst h7; exact .inr ⟨4, 5, 5, by simp, by simp⟩
  by_cases h8 : op = 15
  · subst h8; exact .inr ⟨4, 5, 5, by simp, by simp⟩
  by_cases h9 : op = 8
  · subst h9; exact .inr ⟨5, 5, 6, by simp, by simp⟩
  by_cases h10 : op = 9
  · subst h10; exact .inr ⟨5, 5, 6, by simp, by simp⟩
  refine .inl ?_
  simp [h1, h2, h3, h4, h5, h6, h7, h8, h9, h10]
theorem rules_S {op : Int} {rl l r : Nat} {s : Str} (h : (op, rl, s, l, r) ∈ rules) : ruleS op = ((rl : Int), s, (l : Int), (r : Int)) ∧ ¬ op = 1 ∧ ¬ op = 2 ∧ ¬ op = 3 ∧ ¬ op = 4 ∧ ¬ op = 6 ∧ ¬ op = 7 ∧ ¬ op = 5 := by
  simp only [rules, List.mem_cons, Prod.mk.injEq, List.not_mem_nil, or_false] at h
  rcases h with h | h | h | h | h | h | h | h | h | h <;>
  · obtain ⟨rfl, rfl, rfl, rfl, rfl⟩ := h
    refine ⟨by simp [ruleS], by decide, by decide, by decide, by decide, by decide, by decide, by decide⟩
theorem BR_ne {e : Ex} {lv : Int} {ts : List Tk} (h : BR e lv ts) : ts ≠ [] := by
  have o : ∀ {p : Tk → Bool} {ts : List Tk}, one p ts → ts ≠ [] := fun ⟨t, h, _⟩ => by rw [h]; simp
  have k : ∀ {i : Nat} {lv : Int} {ts : List Tk}, kidR e i lv ts → ts ≠ [] := fun ⟨x, d, _, h⟩ => h.nn
  have s : ∀ {R : TR} {Rs : List TR} {ts : List Tk}, (∀ us, R us → us ≠ []) → seqR (R :: Rs) ts → ts ≠ [] := fun hR ⟨u, v, e, h, _⟩ => by rw [e]; have := hR u h; simp [this]
  unfold BR at h
  split at h
  · exact o h
  split at h
  · exact o h
  split at h
  · exact o h
  split at h
  · exact s (fun _ => o) h
  split at h
  · exact s (fun _ => o) h
  split at h
  · obtain ⟨u, v, e, h, _⟩ := h
    rw [e]; have := o h; simp [this]
  split at h
  · split at h
    · exact h.elim
    · exact s (fun _ => o) h
  split at h
  · exact h.elim
  · exact s (fun _ => k) h
/-- An expression that has its shape. -/
def Ex.good (e : Ex) : Prop := ∀ x ∈ e.pre, isPartS x = true
theorem Ex.good_kid {e x : Ex} (h : e.good) (hx : x ∈ e.kids) : x.good := fun y hy => h y (by
  rw [e.pre_eq, Ex.pres_map]
  exact List.mem_cons_of_mem _ (List.mem_flatMap.2 ⟨x, hx, hy⟩))
theorem DE_PR {e : Ex} (hg : isPartS e = true) {L : Nat} (hL : 1 ≤ L) {ts : List Tk} : PR (BR e) (L : Int) ts ↔ ∃ d, DE L ts e d := by
  have hp : ((e.kids.length : Int) = partsS e.op) ∧ (if e.op = 4 then isName e.mon = true ∧ isName e.name = true else e.mon = [] ∧ e.name = []) ∧ e.n ≥ 0 ∧ (e.op = 1 ∨ e.op = 7 ∨ e.n = 0) := by
    unfold isPartS at hg
    simp only [Bool.and_eq_true, Bool.or_eq_true, beq_iff_eq, decide_eq_true_eq] at hg
    obtain ⟨⟨h1, h2⟩, h3, h4⟩ := hg
    refine ⟨h1, ?_, h3, by rcases h4 with (h4 | h4) | h4 <;> simp [h4]⟩
    by_cases h : e.op = 4
    · rw [if_pos h]; simpa [h] using h2
    · rw [if_neg h]
      have : (e.op == 4) = false := by simpa using h
      rw [this] at h2; simpa using h2
  obtain ⟨hk, hn, _, hz⟩ := hp
  constructor
  · intro h
    generalize hlv : (L : Int) = lv at h
    induction h generalizing L with
    | par ht h hu ih =>
      obtain ⟨d, hd⟩ := ih (L := 1) (Nat.le_refl _) rfl
      exact ⟨d + 1, .par (isS_sg.1 ht) hd (isS_sg.1 hu)⟩
    | bare h =>
      subst hlv
      cases e with
      | mk op mon name n kids pl =>
      dsimp only at hk hn hz
      unfold BR kidR at h
      dsimp only at h
      by_cases h1 : op = 1
      · rw [if_pos h1] at h; subst h1
        obtain ⟨t, rfl, ht⟩ := h
        rw [if_neg (by decide)] at hn
        have : kids = [] := List.length_eq_zero_iff.1 (by have : partsS 1 = 0 := rfl; omega)
        rw [hn.1, hn.2, this]; exact ⟨0, .num (isI_nu.1 ht)⟩
      rw [if_neg h1] at h
      by_cases h2 : op = 2
      · rw [if_pos h2] at h; subst h2
        obtain ⟨t, rfl, ht⟩ := h
        rw [if_neg (by decide)] at hn
        have : kids = [] := List.length_eq_zero_iff.1 (by have : partsS 2 = 0 := rfl; omega)
        rw [hn.1, hn.2, this, show n = 0 by omega]; exact ⟨0, .tru (isS_sg.1 ht)⟩
      rw [if_neg h2] at h
      by_cases h3 : op = 3
      · rw [if_pos h3] at h; subst h3
        obtain ⟨t, rfl, ht⟩ := h
        rw [if_neg (by decide)] at hn
        have : kids = [] := List.length_eq_zero_iff.1 (by have : partsS 3 = 0 := rfl; omega)
        rw [hn.1, hn.2, this, show n = 0 by omega]; exact ⟨0, .fls (isS_sg.1 ht)⟩
      rw [if_neg h3] at h
      by_cases h4 : op = 4
      · rw [if_pos h4] at h; subst h4
        obtain ⟨_, _, rfl, ⟨t, rfl, ht⟩, _, _, rfl, ⟨u, rfl, hu⟩, _, _, rfl, ⟨v, rfl, hv⟩, h⟩ := h
        have h : _ = [] := h
        rw [h]
        have : kids = [] := List.length_eq_zero_iff.1 (by have : partsS 4 = 0 := rfl; omega)
        rw [this, show n = 0 by omega]; exact ⟨0, .var (isN_nm.1 ht) (isS_sg.1 hu) (isN_nm.1 hv)⟩
      rw [if_neg h4] at h
      rw [if_neg h4] at hn
      rw [hn.1, hn.2]
      have kid1 : ∀ {x : Ex}, kids.length = 1 → kids[0]? = some x → kids = [x] := by
        intro x hl hx
        match kids, hl with
        | [y], _ => simp at hx; rw [hx]
      have kid2 : ∀ {x y : Ex}, kids.length = 2 → kids[0]? = some x → kids[1]? = some y → kids = [x, y] := by
        intro x y hl hx hy
        match kids, hl with
        | [a, b], _ => simp at hx hy; rw [hx, hy]
      by_cases h5 : op = 6
      · rw [if_pos h5] at h; subst h5
        obtain ⟨_, _, rfl, ⟨t, rfl, ht⟩, us, _, rfl, ⟨x, d, hx, hd⟩, h⟩ := h
        have h : _ = [] := h
        rw [h, List.append_nil]
        rw [kid1 (by have : partsS 6 = 1 := rfl; omega) hx, show n = 0 by omega]
        exact ⟨d + 1, .neg (isS_sg.1 ht) hd⟩
      rw [if_neg h5] at h
      by_cases h6 : op = 7
      · rw [if_pos h6] at h; subst h6
        obtain ⟨_, _, rfl, ⟨t, rfl, ht⟩, _, _, rfl, ⟨u, rfl, hu⟩, us, _, rfl, ⟨x, d, hx, hd⟩, h⟩ := h
        have h : _ = [] := h
        rw [h, List.append_nil]
        rw [kid1 (by have : partsS 7 = 1 := rfl; omega) hx]
        exact ⟨d + 1, .mul (isI_nu.1 ht) (isS_sg.1 hu) hd⟩
      rw [if_neg h6] at h
      by_cases h7 : op = 5
      · rw [if_pos h7] at h; subst h7
        split at h
        · exact h.elim
        · rename_i hlv
          obtain ⟨_, _, rfl, ⟨t, rfl, ht⟩, us, _, rfl, ⟨x, d, hx, hd⟩, h⟩ := h
          have h : _ = [] := h
          rw [h, List.append_nil]
          rw [kid1 (by have : partsS 5 = 1 := rfl; omega) hx, show n = 0 by omega]
          exact ⟨d + 1, .not (by omega) (isS_sg.1 ht) hd⟩
      rw [if_neg h7] at h
      split at h
      · exact h.elim
      · rename_i hlv
        rcases ruleS_of (op := op) with hr | ⟨rl, a, b, hr, he⟩
        · omega
        · rw [he] at h hlv
          dsimp only at h hlv
          obtain ⟨us, _, rfl, ⟨x, d, hx, hd⟩, _, _, rfl, ⟨t, rfl, ht⟩, vs, _, rfl, ⟨y, g, hy, hg'⟩, h⟩ := h
          have h : _ = [] := h
          rw [h, List.append_nil]
          have hl2 : partsS op = 2 := by
            simp only [rules, List.mem_cons, Prod.mk.injEq, List.not_mem_nil, or_false] at hr
            rcases hr with hr | hr | hr | hr | hr | hr | hr | hr | hr | hr <;> (rw [hr.1]; rfl)
          rw [kid2 (by omega) hx hy, show n = 0 by omega]
          exact ⟨max d g, .bin hr (by omega) hd (isS_sg.1 ht) hg'⟩
  · rintro ⟨d, h⟩
    have key : ∀ {L : Nat} {ts : List Tk} {e : Ex} {d : Nat}, DE L ts e d → PR (BR e) (L : Int) ts := by
      intro L ts e d h
      have nilR : seqR [] [] := rfl
      induction h with
      | par ht h hu ih => exact .par (isS_sg.2 ht) ih (isS_sg.2 hu)
      | num ht => exact .bare (by unfold BR; dsimp only; rw [if_pos rfl]; exact ⟨_, rfl, isI_nu.2 ht⟩)
      | tru ht => exact .bare (by unfold BR; dsimp only; rw [if_neg (by decide), if_pos rfl]; exact ⟨_, rfl, isS_sg.2 ht⟩)
      | fls ht => exact .bare (by unfold BR; dsimp only; rw [if_neg (by decide), if_neg (by decide), if_pos rfl]; exact ⟨_, rfl, isS_sg.2 ht⟩)
      | var ht hu hv => exact .bare (by unfold BR; dsimp only; rw [if_neg (by decide), if_neg (by decide), if_neg (by decide), if_pos rfl]; exact ⟨_, _, rfl, ⟨_, rfl, isN_nm.2 ht⟩, _, _, rfl, ⟨_, rfl, isS_sg.2 hu⟩, _, _, rfl, ⟨_, rfl, isN_nm.2 hv⟩, nilR⟩)
      | neg ht h => exact .bare (by unfold BR kidR; dsimp only; rw [if_neg (by decide), if_neg (by decide), if_neg (by decide), if_neg (by decide), if_pos rfl]; exact ⟨_, _, rfl, ⟨_, rfl, isS_sg.2 ht⟩, _, [], by simp, ⟨_, _, rfl, h⟩, nilR⟩)
      | mul ht hu h => exact .bare (by unfold BR kidR; dsimp only; rw [if_neg (by decide), if_neg (by decide), if_neg (by decide), if_neg (by decide), if_neg (by decide), if_pos rfl]; exact ⟨[_], _, rfl, ⟨_, rfl, isI_nu.2 ht⟩, [_], _, rfl, ⟨_, rfl, isS_sg.2 hu⟩, _, [], by simp, ⟨_, _, rfl, h⟩, nilR⟩)
      | not hL ht h => exact .bare (by unfold BR kidR; dsimp only; rw [if_neg (by decide), if_neg (by decide), if_neg (by decide), if_neg (by decide), if_neg (by decide), if_neg (by decide), if_pos rfl, if_neg (by omega)]; exact ⟨_, _, rfl, ⟨_, rfl, isS_sg.2 ht⟩, _, [], by simp, ⟨_, _, rfl, h⟩, nilR⟩)
      | bin hr hL h1 ht h2 =>
        obtain ⟨e, n1, n2, n3, n4, n6, n7, n5⟩ := rules_S hr
        refine .bare ?_
        unfold BR kidR
        dsimp only
        rw [if_neg n1, if_neg n2, if_neg n3, if_neg n4, if_neg n6, if_neg n7, if_neg n5, e, if_neg (by dsimp only; omega)]
        exact ⟨_, _, rfl, ⟨_, _, rfl, h1⟩, [_], _, rfl, ⟨_, rfl, isS_sg.2 ht⟩, _, [], by simp, ⟨_, _, rfl, h2⟩, nilR⟩
    exact key h
theorem spec_bare {l : List Tk} {e : Ex} (hkids : ∀ x ∈ e.kids, ∀ L : Nat, 1 ≤ L → SpecF l (endsE l x (L : Int)) (fun ts => ∃ d, DE L ts x d)) (lv : Int) (hlv1 : 1 ≤ lv) : SpecS l (bareE l e lv) (BR e lv) := by
  rw [bareE_eq]
  have hat : ∀ (k : Nat) (L : Nat), 1 ≤ L → SpecS l (atS (((e.kids.map (endsE l)).getD k fun _ _ => []) (L : Int))) (kidR e k (L : Int)) := by
    intro k L hL
    refine spec_at fun a j => ?_
    rw [List.getD_eq_getElem?_getD, List.getElem?_map]
    cases hk : e.kids[k]? with
    | none =>
      simp only [Option.map_none, Option.getD_none]
      constructor
      · intro h; cases h
      · rintro ⟨ts, _, ⟨x, d, h, _⟩, _⟩; rw [hk] at h; cases h
    | some x =>
      simp only [Option.map_some, Option.getD_some]
      rw [hkids x (List.mem_of_getElem? hk) L hL a j]
      constructor
      · rintro ⟨ts, h1, ⟨d, h2⟩, h3⟩; exact ⟨ts, h1, ⟨x, d, hk, by rw [Int.toNat_natCast]; exact h2⟩, h3⟩
      · rintro ⟨ts, h1, ⟨y, d, hy, h2⟩, h3⟩
        rw [hk] at hy; injection hy with hy; subst hy
        rw [Int.toNat_natCast] at h2
        exact ⟨ts, h1, ⟨d, h2⟩, h3⟩
  have st := spec_step l
  unfold bareB BR
  dsimp only
  by_cases h1 : e.op = 1
  · rw [if_pos h1]; simp only [if_pos h1]; exact st _
  rw [if_neg h1]; simp only [if_neg h1]
  by_cases h2 : e.op = 2
  · rw [if_pos h2]; simp only [if_pos h2]; exact st _
  rw [if_neg h2]; simp only [if_neg h2]
  by_cases h3 : e.op = 3
  · rw [if_pos h3]; simp only [if_pos h3]; exact st _
  rw [if_neg h3]; simp only [if_neg h3]
  by_cases h4 : e.op = 4
  · rw [if_pos h4]; simp only [if_pos h4]; exact spec_row (.cons (st _) (.cons (st _) (.cons (st _) .nil)))
  rw [if_neg h4]; simp only [if_neg h4]
  by_cases h5 : e.op = 6
  · rw [if_pos h5]; simp only [if_pos h5]; exact spec_row (.cons (st _) (.cons (hat 0 6 (by decide)) .nil))
  rw [if_neg h5]; simp only [if_neg h5]
  by_cases h6 : e.op = 7
  · rw [if_pos h6]; simp only [if_pos h6]; exact spec_then (st _) (spec_row (.cons (st _) (.cons (hat 0 6 (by decide)) .nil)))
  rw [if_neg h6]; simp only [if_neg h6]
  by_cases h7 : e.op = 5
  · rw [if_pos h7]; simp only [if_pos h7]
    by_cases hl : lv > 3
    · rw [if_pos hl]; simp only [if_pos hl]; exact spec_false l
    · rw [if_neg hl]; simp only [if_neg hl]; exact spec_row (.cons (st _) (.cons (hat 0 3 (by decide)) .nil))
  rw [if_neg h7]; simp only [if_neg h7]
  by_cases hl : (ruleS e.op).1 < lv
  · rw [if_pos hl]; simp only [if_pos hl]; exact spec_false l
  · rw [if_neg hl]; simp only [if_neg hl]
    rcases ruleS_of (op := e.op) with hr | ⟨rl, a, b, hr, he⟩
    · omega
    · rw [he]
      dsimp only
      have hab : 1 ≤ a ∧ 1 ≤ b := by
        simp only [rules, List.mem_cons, Prod.mk.injEq, List.not_mem_nil, or_false] at hr
        omega
      exact spec_row (.cons (hat 0 a hab.1) (.cons (st _) (.cons (hat 1 b hab.2) .nil)))
theorem spec_E (l : List Tk) : ∀ (n : Nat) (e : Ex), e.pre.length ≤ n → e.good → ∀ L : Nat, 1 ≤ L → SpecF l (endsE l e (L : Int)) (fun ts => ∃ d, DE L ts e d)
  | 0, e, hn, _, L, _ => by have := e.pre_pos; omega
  | n + 1, e, hn, hg, L, hL => by
    have h0 := spec_ends (l := l) (fun lv h1 => spec_bare (e := e) (fun x hx K hK => spec_E l n x (by have := Ex.pre_kid hx; omega) (Ex.good_kid hg hx) K hK) lv h1) (fun lv ts h => BR_ne h) (L : Int) (by omega)
    intro a j
    have hp : isPartS e = true := hg e (by rw [e.pre_eq]; exact List.mem_cons_self)
    rw [show endsE l e (L : Int) = endsF l (bareE l e) (L : Int) from rfl, h0 a j]
    exact ⟨fun ⟨ts, h1, h2, h3⟩ => ⟨ts, h1, (DE_PR hp hL).1 h2, h3⟩, fun ⟨ts, h1, h2, h3⟩ => ⟨ts, h1, (DE_PR hp hL).2 h2, h3⟩⟩
end Go.Proofs.YtmflfcbebeikcaaGreat.Q

namespace Go.Proofs.YtmflfcbebeikcaaGreat.Q
open Go.RowKit
variable [Amb]
abbrev mtM (l : List Tk) : List D := mtR l (.memo (.sl (l.map Tk.c)))
/-- An expression at a level, to be held against tokens. -/
def atC (l : List Tk) (e : Ex) (lv : Int) : Cl := .three 93 [.ptr (mtM l)] [.nptr (ndRow e)] [.int .i64 lv]
def ExC (l : List Tk) (e : Ex) (lv i : Int) : Prop := PFun Tryz.prog 96 [.iptr (mtM l), spotV e lv i] [] (.d (.set (endsE l e lv i))) []
theorem at_c (l : List Tk) (e : Ex) (lv : Int) : PFun Tryz.prog 57 [.iptr (mtM l), ndV e, iv lv] [] (.fn (.func 93) [] [.iptr [.ptr (mtM l)], .iptr [.nptr (ndRow e)], .iptr [.int .i64 lv]]) [] := by
  refine fn_sem pok 8 0 Tryz.func57 (by kernel_rfl) rfl rfl rfl rfl ?_
  refine SWp.then pok (by kernel_rfl) ?_
  refine SWp.frz 0 rfl rfl ?_
  refine SWp.frz 1 rfl rfl ?_
  refine SWp.frz 2 rfl rfl ?_
  refine SWp.go pok (by kernel_rfl) ?_
  exact ⟨rfl, rfl⟩
def atH (F : Int → List Int) (xs : List (List V)) : List Int := xs.foldl (fun acc a => match a with
  | [.d (.int .i64 k)] => unS acc (F k)
  | _ => acc) []
theorem atH_snoc (F : Int → List Int) (xs : List (List V)) (k : Int) : atH F (xs ++ [[iv k]]) = unS (atH F xs) (F k) := by
  unfold atH
  rw [List.foldl_append]
  rfl
theorem atH_hist (F : Int → List Int) : ∀ seen, atH F (histK seen) = atS F seen
  | [] => rfl
  | k :: r => by
    show atH F (histK r ++ [[iv k]]) = _
    rw [atH_snoc, atH_hist F r]
    rfl
theorem srt_atH (F : Int → List Int) (xs : List (List V)) : Srt (atH F xs) := by
  unfold atH
  have : ∀ (xs : List (List V)) (acc : List Int), Srt acc → Srt (xs.foldl (fun acc a => match a with | [.d (.int .i64 k)] => unS acc (F k) | _ => acc) acc) := by
    intro xs
    induction xs with
    | nil => intro acc h; exact h
    | cons a xs ih =>
      intro acc h
      rw [List.foldl_cons]
      refine ih _ ?_
      split
      · exact srt_unS h _
      · exact h
  exact this xs [] List.Pairwise.nil
theorem at1_c (l : List Tk) (e : Ex) (lv : Int) (S : List Int) (hE : ∀ i ∈ S, ExC l e lv i) :
    PFun Tryz.prog 93 [.d (.set S), .iptr [.ptr (mtM l)], .iptr [.nptr (ndRow e)], .iptr [.int .i64 lv]] [] (.d (.set (atS (endsE l e lv) S))) [] := by
  refine fn_sem pok 21 0 Tryz.func93 (by kernel_rfl) rfl rfl rfl rfl ?_
  refine SWp.then pok (by kernel_rfl) ?_
  refine SWp.then pok (by kernel_rfl) ?_
  refine SWp.seq ?_
  refine SWp.then pok (by kernel_rfl) ?_
  refine PFun.call (keys_c S) ?_
  refine SWp.block ?_
  refine SWp.range 121 [.iptr [.set S]] rfl rfl (by decide) (fun _ => .normal) rfl (fun xs => ∃ zs k, k ∈ S ∧ xs = zs ++ [[iv k]])
    (fun xs a ⟨zs, y, _, e⟩ => by have := (List.append_inj' e rfl).2; injection this with this; rw [this]; rfl)
    (fun xs => [.iset (atH (endsE l e lv) xs), .box [.map 0]]) (fun xs => rfl)
    (fun xs => ∃ seen : List Int, (∀ k, k ∈ seen → k ∈ S) ∧ (∀ k, k ∈ S → k ∈ seen) ∧ xs = histK seen) (fun l0 xs a hok hfin => ?_) ?_ (fun xs hz => ?_)
  · obtain ⟨zs, k, hk, e1⟩ := hok
    obtain ⟨e1, e2⟩ := List.append_inj' e1 rfl
    injection e2 with e2
    subst e1; subst e2
    unfold roundQ
    have hsn := atH_snoc (endsE l e lv) xs k
    refine SWp.go pok (by kernel_rfl) ?_
    refine SWp.go pok (by kernel_rfl) ?_
    refine ⟨_, _, hE k hk, ?_⟩
    refine ⟨_, _, copy_c (atH (endsE l e lv) xs) (endsE l e lv k) (srt_atH _ _), ?_⟩
    exact ⟨rfl, .inr ⟨[0, 1], ⟨rfl, rfl⟩, by dsimp only; rw [hsn]; rfl, trivial⟩⟩
  · refine ⟨rfl, rfl, fun A' _ _ hgo hok => ?_⟩
    refine PCalls.mono (@keys1_c A' S (fun xs => by rw [hgo]; rfl) (fun zs k hk => by rw [hok]; exact ⟨rfl, zs, k, hk, rfl⟩)) ?_
    rintro r h' ⟨seen, h1, h2, rfl⟩
    exact ⟨_, [], rfl, rfl, seen, h1, h2, rfl⟩
  · obtain ⟨seen, h1, h2, rfl⟩ := hz
    have he : atH (endsE l e lv) (histK seen) = atS (endsE l e lv) S := by
      rw [atH_hist]
      exact atS_all h1 h2
    rw [he]
    refine SWp.then pok (by kernel_rfl) ?_
    refine SWp.frzSet 0 rfl ?_
    refine SWp.go pok (by kernel_rfl) ?_
    exact ⟨rfl, rfl⟩
/-- The same; the places are frozen here. -/
theorem at1_m (l : List Tk) (e : Ex) (lv : Int) (S : List Int) (hE : ∀ i ∈ S, ExC l e lv i) :
    PFun Tryz.prog 93 [.map 0, .iptr [.ptr (mtM l)], .iptr [.nptr (ndRow e)], .iptr [.int .i64 lv]] [.iset S] (.d (.set (atS (endsE l e lv) S))) [.dead] := by
  refine fn_sem pok 21 1 Tryz.func93 (by kernel_rfl) rfl rfl rfl rfl ?_
  refine SWp.frzSet 0 rfl ?_
  refine SWp.then pok (by kernel_rfl) ?_
  refine SWp.then pok (by kernel_rfl) ?_
  refine SWp.seq ?_
  refine SWp.then pok (by kernel_rfl) ?_
  refine PFun.call (keys_c S) ?_
  refine SWp.block ?_
  refine SWp.range 121 [.iptr [.set S]] rfl rfl (by decide) (fun _ => .normal) rfl (fun xs => ∃ zs k, k ∈ S ∧ xs = zs ++ [[iv k]])
    (fun xs a ⟨zs, y, _, e⟩ => by have := (List.append_inj' e rfl).2; injection this with this; rw [this]; rfl)
    (fun xs => [.dead, .iset (atH (endsE l e lv) xs), .box [.map 1]]) (fun xs => rfl)
    (fun xs => ∃ seen : List Int, (∀ k, k ∈ seen → k ∈ S) ∧ (∀ k, k ∈ S → k ∈ seen) ∧ xs = histK seen) (fun l0 xs a hok hfin => ?_) ?_ (fun xs hz => ?_)
  · obtain ⟨zs, k, hk, e1⟩ := hok
    obtain ⟨e1, e2⟩ := List.append_inj' e1 rfl
    injection e2 with e2
    subst e1; subst e2
    unfold roundQ
    have hsn := atH_snoc (endsE l e lv) xs k
    refine SWp.go pok (by kernel_rfl) ?_
    refine SWp.go pok (by kernel_rfl) ?_
    refine ⟨_, _, hE k hk, ?_⟩
    refine ⟨_, _, copy_c (atH (endsE l e lv) xs) (endsE l e lv k) (srt_atH _ _), ?_⟩
    exact ⟨rfl, .inr ⟨[0, 1, 2], ⟨rfl, rfl⟩, by dsimp only; rw [hsn]; rfl, trivial⟩⟩
  · refine ⟨rfl, rfl, fun A' _ _ hgo hok => ?_⟩
    refine PCalls.mono (@keys1_c A' S (fun xs => by rw [hgo]; rfl) (fun zs k hk => by rw [hok]; exact ⟨rfl, zs, k, hk, rfl⟩)) ?_
    rintro r h' ⟨seen, h1, h2, rfl⟩
    exact ⟨_, [], rfl, rfl, seen, h1, h2, rfl⟩
  · obtain ⟨seen, h1, h2, rfl⟩ := hz
    have he : atH (endsE l e lv) (histK seen) = atS (endsE l e lv) S := by
      rw [atH_hist]
      exact atS_all h1 h2
    rw [he]
    refine SWp.then pok (by kernel_rfl) ?_
    refine SWp.frzSet 1 rfl ?_
    refine SWp.go pok (by kernel_rfl) ?_
    exact ⟨rfl, rfl⟩
end Go.Proofs.YtmflfcbebeikcaaGreat.Q

namespace Go.Proofs.YtmflfcbebeikcaaGreat.Q
open Go.RowKit
variable [Amb]
theorem bare_end {l : List Tk} {e : Ex} (hg : e.good) {lv : Int} (hlv : 1 ≤ lv) {i : Int} (hi : 0 ≤ i) (h : ¬ i < l.length) : bareE l e lv [i] = [] := by
  have hs := spec_bare (l := l) (e := e) (fun x hx K hK => spec_E l _ x (Nat.le_refl _) (Ex.good_kid hg hx) K hK) lv hlv
  have hi' : ((i.toNat : Nat) : Int) = i := by omega
  rw [← hi']
  refine List.eq_nil_iff_forall_not_mem.2 fun j hj => ?_
  obtain ⟨ts, h1, h2, _⟩ := (spec_one hs i.toNat j).1 hj
  rw [List.drop_eq_nil_of_le (by omega)] at h1
  exact BR_ne h2 (List.prefix_nil.1 h1)
theorem ends_ge {l : List Tk} {e : Ex} (hg : e.good) {lv : Int} (hlv : 1 ≤ lv) {i x : Int} (hi : 0 ≤ i) (hx : x ∈ endsE l e lv i) : i ≤ x := by
  have h := spec_E l _ e (Nat.le_refl _) hg lv.toNat (by omega)
  rw [show ((lv.toNat : Nat) : Int) = lv by omega] at h
  rw [show i = ((i.toNat : Nat) : Int) by omega] at hx
  obtain ⟨ts, _, _, rfl⟩ := (h i.toNat x).1 hx
  omega
theorem at_does {l : List Tk} {e : Ex} (hg : e.good) {lv : Int} (hlv : 1 ≤ lv) {a : Int} (h0 : 0 ≤ a) (hE : ∀ i, a ≤ i → ExC l e lv i) : (atC l e lv).Does a (atS (endsE l e lv)) :=
  ⟨fun S hS x hx => by
    obtain ⟨i, h1, h2⟩ := mem_atS.1 hx
    have h3 := hS i h1
    have := ends_ge hg hlv (by omega) h2
    omega, fun S hS => at1_c l e lv S fun i hi => hE i (hS i hi)⟩
theorem exprG_c (hM : @Amb.memo _ = gramMemo) {l : List Tk} (hl : l.length < 1073741824) {e : Ex} (hg : e.good) {lv i : Int} (hlv : 1 ≤ lv) (hi : 0 ≤ i)
    (hB : PFun Tryz.prog 122 [.iptr (mtM l), ndV e, iv lv, .d (.set [i])] [] (.d (.set (bareE l e lv [i]))) [])
    (hE : i < l.length → ∀ k, i < k → ExC l e 1 k) : ExC l e lv i := by
  have hends := endsF_eq l (bareE l e) lv i hi (fun h => bare_end hg hlv hi h)
  have hwi : i < l.length ∨ wS l [40] [i] = [] := by
    by_cases h : i < l.length
    · exact .inl h
    · exact .inr (step_end l _ h)
  have hsi : ∀ x ∈ [i], 0 ≤ x := fun x hx => by simp at hx; omega
  refine fn_sem pok 59 0 Tryz.func96 (by kernel_rfl) rfl rfl rfl rfl ?_
  refine SWp.then pok (by kernel_rfl) ?_
  refine SWp.seq ?_
  refine SWp.then pok (by kernel_rfl) ?_
  refine ⟨_, gram_look hM l e lv i, ?_⟩
  refine SWp.flag 1 rfl (fun b => ?_)
  cases b with
  | true =>
    refine SWp.go pok (by kernel_rfl) ?_
    exact ⟨rfl, rfl⟩
  | false =>
    refine SWp.then pok (by kernel_rfl) ?_
    refine SWp.go pok (by kernel_rfl) ?_
    refine SWp.then pok (by kernel_rfl) ?_
    refine SWp.frzSet 2 rfl ?_
    refine SWp.then pok (by kernel_rfl) ?_
    refine SWp.seq ?_
    refine SWp.then pok (by kernel_rfl) ?_
    refine PFun.call (gsign_c l _ hl [40] [i] hsi) ?_
    have hfin : ∀ Z : List Int, Z = (if wS l [40] [i] = [] then [] else unS [] (rowF [atS (endsF l (bareE l e) 1), wS l [41]] (wS l [40] [i]))) → unS Z (bareE l e lv [i]) = endsE l e lv i := fun Z hZ => by
      rw [hZ]; exact hends.symm
    have hz : Srt (if wS l [40] [i] = [] then [] else unS [] (rowF [atS (endsF l (bareE l e) 1), wS l [41]] (wS l [40] [i]))) := by
      split
      · exact List.Pairwise.nil
      · exact srt_unS List.Pairwise.nil _
    refine SWp.go pok (by kernel_rfl) ?_
    refine brP_split (fun h => ?_) (fun h => ?_)
    · have hne : wS l [40] [i] ≠ [] := fun h2 => by
        rw [show stepS l (isS [40]) [i] = [] from h2] at h
        simp at h
      have hlt : i < l.length := by
        rcases hwi with h2 | h2
        · exact h2
        · exact absurd h2 hne
      rw [if_neg hne] at hfin hz
      refine PFun.call (at_c l e 1) ?_
      refine PFun.call (gword_c l _ [41]) ?_
      refine PFun.call (row_c (i + 1) [(atC l e 1, atS (endsE l e 1)), (wordC l (.memo (.sl (l.map Tk.c))) [41], wS l [41])] (by simp) (fun c hc => ?_) (stepS l (isS [40]) [i]) (fun x hx => ?_)) ?_
      · simp only [List.mem_cons, List.not_mem_nil, or_false] at hc
        rcases hc with rfl | rfl
        · exact at_does hg (Int.le_refl 1) (by omega) fun k hk => hE hlt k (by omega)
        · exact word_does (by omega) l _ hl [41]
      · obtain ⟨j, h1, _, rfl⟩ := mem_stepS.1 hx
        simp at h1
        omega
      refine PFun.call (copy_c [] _ List.Pairwise.nil) ?_
      rw [rowS_F]
      refine SWp.then pok (by kernel_rfl) ?_
      refine PFun.call hB ?_
      refine PFun.call (copy_c _ _ hz) ?_
      refine SWp.frzSet 3 rfl ?_
      refine SWp.then pok (by kernel_rfl) ?_
      refine ⟨by have hu := gram_up hM l e lv i; rw [← hfin _ rfl] at hu; exact hu, ?_⟩
      refine SWp.go pok (by kernel_rfl) ?_
      exact ⟨by rw [← hfin _ rfl]; rfl, rfl⟩
    · have hne : wS l [40] [i] = [] := by
        refine Classical.byContradiction fun h2 => ?_
        obtain ⟨x, xs, hx⟩ := List.exists_cons_of_ne_nil h2
        rw [show stepS l (isS [40]) [i] = x :: xs from hx] at h
        simp at h
      rw [if_pos hne] at hfin hz
      refine SWp.then pok (by kernel_rfl) ?_
      refine PFun.call hB ?_
      refine PFun.call (copy_c _ _ hz) ?_
      refine SWp.frzSet 3 rfl ?_
      refine SWp.then pok (by kernel_rfl) ?_
      refine ⟨by have hu := gram_up hM l e lv i; rw [← hfin _ rfl] at hu; exact hu, ?_⟩
      refine SWp.go pok (by kernel_rfl) ?_
      exact ⟨by rw [← hfin _ rfl], rfl⟩
theorem ruleOf_c (op : Int) : PFun Tryz.prog 138 [iv op] [] (.agg [iv (ruleS op).1, sv' (ruleS op).2.1, iv (ruleS op).2.2.1, iv (ruleS op).2.2.2]) [] := by
  refine fn_sem pok 17 0 Tryz.func138 (by kernel_rfl) rfl rfl rfl rfl ?_
  refine SWp.go pok (by kernel_rfl) ?_
  refine .inl ?_
  unfold ruleS
  iterate 10
    refine brP_split (fun h => ?_) (fun h => ?_)
    · have h := eq_of_beq h
      subst h
      exact ⟨rfl, rfl⟩
  simp only [beq_eq_false_iff_ne] at *
  simp_all
  exact ⟨rfl, rfl⟩
theorem gpair_c (l : List Tk) (mt : D) (a b : Str) : PFun Tryz.prog 135 [.iptr (mtR l mt), sv' a, sv' b] [] (.fn (.func 142) [] [.iptr [.ptr (mtR l mt)], .iptr [.str a], .iptr [.str b]]) [] := by
  refine fn_sem pok 8 0 Tryz.func135 (by kernel_rfl) rfl rfl rfl rfl ?_
  refine SWp.then pok (by kernel_rfl) ?_
  refine SWp.frz 0 rfl rfl ?_
  refine SWp.frz 1 rfl rfl ?_
  refine SWp.frz 2 rfl rfl ?_
  refine SWp.go pok (by kernel_rfl) ?_
  exact ⟨rfl, rfl⟩
end Go.Proofs.YtmflfcbebeikcaaGreat.Q

namespace Go.Proofs.YtmflfcbebeikcaaGreat.Q
open Go.RowKit
variable [Amb]
theorem kids1 {kids : List Ex} (h : kids.length = 1) : ∃ x, kids = [x] := match kids, h with
  | [x], _ => ⟨x, rfl⟩
theorem kids2 {kids : List Ex} (h : kids.length = 2) : ∃ x y, kids = [x, y] := match kids, h with
  | [x, y], _ => ⟨x, y, rfl⟩
theorem bare_c {l : List Tk} (hl : l.length < 1073741824) {e : Ex} (hg : e.good) {lv : Int} (S : List Int) (hS : OkS 0 S)
    (hK : ∀ x ∈ e.kids, ∀ L : Int, 1 ≤ L → ∀ i, 0 ≤ i → ExC l x L i) : PFun Tryz.prog 122 [.iptr (mtM l), ndV e, iv lv, .d (.set S)] [] (.d (.set (bareE l e lv S))) [] := by
  have hpt : isPartS e = true := hg e (by rw [e.pre_eq]; exact List.mem_cons_self)
  have hpl : (e.kids.length : Int) = partsS e.op := by
    unfold isPartS at hpt
    simp only [Bool.and_eq_true, beq_iff_eq] at hpt
    exact hpt.1.1
  have hgk := fun x (hx : x ∈ e.kids) => Ex.good_kid hg hx
  clear hg hpt
  have hat : ∀ x ∈ e.kids, ∀ L : Int, 1 ≤ L → (atC l x L).Does 0 (atS (endsE l x L)) := fun x hx L hL => at_does (hgk x hx) hL (Int.le_refl 0) fun i hi => hK x hx L hL i hi
  rw [bareE_eq, show ndV e = .d (.nptr [.int .i64 e.op, .str e.mon, .str e.name, .int .i64 e.n, .sl (e.kids.map Ex.e), .int .i64 e.pl, .sl (e.kids.map ndC)]) by rw [ndV, ndRow_eq]]
  have wd : ∀ s, (wordC l (.memo (.sl (l.map Tk.c))) s).Does 0 (wS l s) := fun s => word_does (Int.le_refl 0) l _ hl s
  have cd : ∀ s, (calledC l (.memo (.sl (l.map Tk.c))) s).Does 0 (nS l s) := fun s => called_does (Int.le_refl 0) l _ hl s
  cases e with
  | mk op mon name n kids pl =>
  dsimp only at hpl hat ⊢
  unfold bareB
  refine fn_sem pok 142 0 Tryz.func122 (by kernel_rfl) rfl rfl rfl rfl ?_
  refine SWp.go pok (by kernel_rfl) ?_
  refine brP_split (fun h => ?_) (fun h1 => ?_)
  · rw [if_pos (eq_of_beq h)]
    refine PFun.call (gnumber_c l _ hl n S hS) ?_
    exact ⟨rfl, rfl⟩
  rw [if_neg (by simpa using h1)]
  refine brP_split (fun h => ?_) (fun h2 => ?_)
  · rw [if_pos (eq_of_beq h)]
    refine PFun.call (gsign_c l _ hl _ S hS) ?_
    exact ⟨rfl, rfl⟩
  rw [if_neg (by simpa using h2)]
  refine brP_split (fun h => ?_) (fun h3 => ?_)
  · rw [if_pos (eq_of_beq h)]
    refine PFun.call (gsign_c l _ hl _ S hS) ?_
    exact ⟨rfl, rfl⟩
  rw [if_neg (by simpa using h3)]
  refine brP_split (fun h => ?_) (fun h4 => ?_)
  · rw [if_pos (eq_of_beq h)]
    refine ⟨_, _, gpair_c l _ mon name, ?_⟩
    refine ⟨_, _, pair1_c l _ hl mon name S hS, ?_⟩
    rw [rowS_F]
    exact ⟨rfl, rfl⟩
  rw [if_neg (by simpa using h4)]
  refine brP_split (fun h => ?_) (fun h6 => ?_)
  · have h := eq_of_beq h
    rw [if_pos h]; subst h
    obtain ⟨x, rfl⟩ := kids1 (kids := kids) (by have : partsS 6 = 1 := rfl; omega)
    have hx : x ∈ [x] := List.mem_cons_self
    refine ⟨_, _, gword_c l _ [45], ?_⟩
    refine ⟨by decide, _, rfl, ?_⟩
    refine ⟨_, _, at_c l x 6, ?_⟩
    refine ⟨_, _, row_c 0 [(wordC l (.memo (.sl (l.map Tk.c))) [45], wS l [45]), (atC l x 6, atS (endsE l x 6))] (by simp) (fun c hc => ?_) S hS, ?_⟩
    · simp only [List.mem_cons, List.not_mem_nil, or_false] at hc
      rcases hc with rfl | rfl
      · exact wd _
      · exact hat x hx 6 (by decide)
    rw [rowS_F]
    exact ⟨rfl, rfl⟩
  rw [if_neg (by simpa using h6)]
  refine brP_split (fun h => ?_) (fun h7 => ?_)
  · have h := eq_of_beq h
    rw [if_pos h]; subst h
    obtain ⟨x, rfl⟩ := kids1 (kids := kids) (by have : partsS 7 = 1 := rfl; omega)
    have hx : x ∈ [x] := List.mem_cons_self
    refine ⟨_, _, gnumber_c l _ hl n S hS, ?_⟩
    refine ⟨_, _, gword_c l _ [42], ?_⟩
    refine ⟨by decide, _, rfl, ?_⟩
    refine ⟨_, _, at_c l x 6, ?_⟩
    refine ⟨_, _, row_c 0 [(wordC l (.memo (.sl (l.map Tk.c))) [42], wS l [42]), (atC l x 6, atS (endsE l x 6))] (by simp) (fun c hc => ?_) (iS l n S) (okS_step 0 l _ S hS), ?_⟩
    · simp only [List.mem_cons, List.not_mem_nil, or_false] at hc
      rcases hc with rfl | rfl
      · exact wd _
      · exact hat x hx 6 (by decide)
    rw [rowS_F]
    exact ⟨rfl, rfl⟩
  rw [if_neg (by simpa using h7)]
  refine brP_split (fun h => ?_) (fun h => ?_)
  · have h := eq_of_beq h
    rw [if_pos h]; subst h
    obtain ⟨x, rfl⟩ := kids1 (kids := kids) (by have : partsS 5 = 1 := rfl; omega)
    have hx : x ∈ [x] := List.mem_cons_self
    refine brP_split (fun h9 => ?_) (fun h9 => ?_)
    · rw [if_pos (by simpa using h9)]
      exact ⟨rfl, rfl⟩
    rw [if_neg (by simpa using h9)]
    refine ⟨_, _, gword_c l _ [33], ?_⟩
    refine ⟨by decide, _, rfl, ?_⟩
    refine ⟨_, _, at_c l x 3, ?_⟩
    refine ⟨_, _, row_c 0 [(wordC l (.memo (.sl (l.map Tk.c))) [33], wS l [33]), (atC l x 3, atS (endsE l x 3))] (by simp) (fun c hc => ?_) S hS, ?_⟩
    · simp only [List.mem_cons, List.not_mem_nil, or_false] at hc
      rcases hc with rfl | rfl
      · exact wd _
      · exact hat x hx 3 (by decide)
    rw [rowS_F]
    exact ⟨rfl, rfl⟩
  rw [if_neg (by simpa using h)]
  have h1 : ¬ op = 1 := by simpa using h1
  have h2 : ¬ op = 2 := by simpa using h2
  have h3 : ¬ op = 3 := by simpa using h3
  have h4 : ¬ op = 4 := by simpa using h4
  have h5 : ¬ op = 5 := by simpa using h
  have h6 : ¬ op = 6 := by simpa using h6
  have h7 : ¬ op = 7 := by simpa using h7
  have hop : op = 8 ∨ op = 9 ∨ op = 10 ∨ op = 11 ∨ op = 12 ∨ op = 13 ∨ op = 14 ∨ op = 15 ∨ op = 16 ∨ op = 17 := by
    unfold partsS at hpl
    split at hpl
    · omega
    · split at hpl
      · omega
      · by_cases h0 : op = 0
        · subst h0
          have : partsL.getD (0 : Int).toNat (-1) = -1 := rfl
          omega
        · omega
  have hr : partsS op = 2 ∧ 1 ≤ (ruleS op).2.2.1 ∧ 1 ≤ (ruleS op).2.2.2 := by
    rcases hop with rfl | rfl | rfl | rfl | rfl | rfl | rfl | rfl | rfl | rfl <;> exact ⟨by decide, by decide, by decide⟩
  obtain ⟨x, y, rfl⟩ := kids2 (kids := kids) (by omega)
  have hx : x ∈ [x, y] := List.mem_cons_self
  have hy : y ∈ [x, y] := List.mem_cons_of_mem _ List.mem_cons_self
  refine PFun.call (ruleOf_c op) ?_
  refine brP_split (fun h => ?_) (fun h => ?_)
  · rw [if_pos (by simpa using h)]
    exact ⟨rfl, rfl⟩
  rw [if_neg (by simpa using h)]
  refine ⟨by decide, _, rfl, ?_⟩
  refine ⟨_, _, at_c l x (ruleS op).2.2.1, ?_⟩
  refine ⟨_, _, gword_c l _ (ruleS op).2.1, ?_⟩
  refine ⟨by decide, _, rfl, ?_⟩
  refine ⟨_, _, at_c l y (ruleS op).2.2.2, ?_⟩
  refine ⟨_, _, row_c 0 [(atC l x (ruleS op).2.2.1, atS (endsE l x (ruleS op).2.2.1)), (wordC l (.memo (.sl (l.map Tk.c))) (ruleS op).2.1, wS l (ruleS op).2.1), (atC l y (ruleS op).2.2.2, atS (endsE l y (ruleS op).2.2.2))] (by simp) (fun c hc => ?_) S hS, ?_⟩
  · simp only [List.mem_cons, List.not_mem_nil, or_false] at hc
    rcases hc with rfl | rfl | rfl
    · exact hat x hx _ hr.2.1
    · exact wd _
    · exact hat y hy _ hr.2.2
  rw [rowS_F]
  exact ⟨rfl, rfl⟩
theorem expr_all (hM : @Amb.memo _ = gramMemo) {l : List Tk} (hl : l.length < 1073741824) : ∀ (n : Nat) (e : Ex), e.pre.length ≤ n → e.good → ∀ L : Int, 1 ≤ L → ∀ i, 0 ≤ i → ExC l e L i
  | 0, e, hn, _, _, _, _, _ => by have := e.pre_pos; omega
  | n + 1, e, hn, hg, L, hL, i, hi => by
    have hK : ∀ x ∈ e.kids, ∀ L : Int, 1 ≤ L → ∀ i, 0 ≤ i → ExC l x L i := fun x hx => expr_all hM hl n x (by have := Ex.pre_kid hx; omega) (Ex.good_kid hg hx)
    have hB : ∀ (lv i : Int), 0 ≤ i → PFun Tryz.prog 122 [.iptr (mtM l), ndV e, iv lv, .d (.set [i])] [] (.d (.set (bareE l e lv [i]))) [] := fun lv i hi => bare_c hl hg [i] (fun x hx => by simp at hx; omega) hK
    have go : ∀ (k : Nat) (i L : Int), 1 ≤ L → 0 ≤ i → l.length - i ≤ k → ExC l e L i := by
      intro k
      induction k with
      | zero =>
        intro i L hL hi hk
        exact exprG_c hM hl hg hL hi (hB L i hi) fun h => absurd h (by omega)
      | succ k ih =>
        intro i L hL hi hk
        exact exprG_c hM hl hg hL hi (hB L i hi) fun _ j hj => ih j 1 (Int.le_refl 1) (by omega) (by omega)
    exact go (l.length - i).toNat i L hL hi (by omega)
end Go.Proofs.YtmflfcbebeikcaaGreat.Q
