/- Handy laws for the logic: elements, counters, ends. No condition. -/
import Derived.Test.YtlafnhpmhflnaaaQt
import Derived.Test.YtlafnhpmhflnaaaQw
set_option linter.unusedVariables false
set_option linter.unusedSectionVars false
set_option linter.unnecessarySimpa false
set_option linter.unusedSimpArgs false
namespace Go.Proofs.Ytlafnhpmhflnaaa.Q
open Go.RowKit
variable [Amb]
theorem PIdx.map' {α β : Type} {l : List α} {f : α → β} {z : Int} {i : Nat} {x : α} {K : β → Prop} (hz : z = i) (h : l[i]? = some x) (k : K (f x)) : PIdx (l.map f) z K := by subst hz; exact PIdx.map h k
theorem PIdx.at' {α : Type} {l : List α} {z : Int} {i : Nat} {x : α} {K : α → Prop} (hz : z = i) (h : l[i]? = some x) (k : K x) : PIdx l z K := by subst hz; exact PIdx.at h k
theorem wrap_nat (k : Nat) (h : k < 4611686018427387904) : IntKind.i64.wrap ((k : Int) + 1) = ((k + 1 : Nat) : Int) := by
  rw [IntKind.wrap_i64]; omega
theorem wrap_in {x : Int} (h : R64 x) : IntKind.i64.wrap x = x := by unfold R64 at h; rw [IntKind.wrap_i64]; omega
theorem get_at {α : Type} {l : List α} {k : Nat} (h : k < l.length) : l[k]? = some l[k] := List.getElem?_eq_getElem h
/-- The function's one result; nothing lent. -/
theorem fin1 {r r' : V} (h : r = r') : r = r' ∧ ([] : List Ob) = [] := ⟨h, rfl⟩
theorem dint {k : IntKind} {a b : Int} (h : a = b) : V.d (.int k a) = V.d (.int k b) := by rw [h]
theorem sint {k : IntKind} {a b : Int} (h : a = b) : some (V.d (.int k a)) = some (V.d (.int k b)) := by rw [h]
theorem sv {x y : V} (h : x = y) : some x = some y := by rw [h]
theorem dbool {a b : Bool} (h : a = b) : V.d (.bool a) = V.d (.bool b) := by rw [h]
theorem tup2 {a b c d : V} (h : a = c) (k : b = d) : V.tup [a, b] = V.tup [c, d] := by rw [h, k]
theorem tup3 {a b c d e f : V} (h : a = d) (k : b = e) (l : c = f) : V.tup [a, b, c] = V.tup [d, e, f] := by rw [h, k, l]
theorem lk_some {ρ : Env} {t : Nat} {x y : V} (h : lk ρ t = some x) (e : x = y) : lk ρ t = some y := by rw [h, e]
/-- A number and whether it is there. -/
def ib (p : Int × Bool) : V := .tup [.d (.int .i64 p.1), .d (.bool p.2)]
theorem ib_yes {n : Int} (h : R64 n) : ib (told n) = .tup [.d (.int .i64 n), .d (.bool true)] := by rw [told_yes h]; rfl
theorem ib_no {n : Int} (h : ¬ R64 n) : ib (told n) = .tup [.d (.int .i64 0), .d (.bool false)] := by rw [told_no h]; rfl
/-- A number. -/
abbrev iv (n : Int) : V := .d (.int .i64 n)
end Go.Proofs.Ytlafnhpmhflnaaa.Q
