/- How sums, demands and lists of numbers are read. No condition. -/
import Derived.Test.YtlafnhpmhflnaaaQrd
import Derived.Test.YtlafnhpmhflnaaaQt
set_option linter.unusedVariables false
set_option linter.unusedSectionVars false
set_option linter.unnecessarySimpa false
set_option linter.unusedSimpArgs false
namespace Go.Proofs.Ytlafnhpmhflnaaa.Q
open Go.RowKit
theorem rd_int (fuel : Nat) : RdD Try.prog fuel 3 (fun r => ∃ n, R64 n ∧ r = [.int .i64 n]) := rdD_i64 (by kernel_rfl) fuel
theorem rd_int64 (fuel : Nat) : RdD Try.prog fuel 2 (fun r => ∃ n, R64 n ∧ r = [.int .i64 n]) := rdD_i64 (by kernel_rfl) fuel
theorem rd_Tm (fuel : Nat) : RdD Try.prog fuel 71 (fun r => ∃ t : Tm, t.ok ∧ r = t.e) :=
  (rdD_struct (fs := [(3, 0), (2, 1)]) (by kernel_rfl) (sz := 1 + 1) (by kernel_rfl) fuel fun m _ => frD_cons (by kernel_rfl) (rd_int m) (frD_last (by kernel_rfl) (rd_int64 m))).mono
    fun r ⟨a, b, ⟨x, h1, e1⟩, ⟨y, h2, e2⟩, e⟩ => ⟨⟨x, y⟩, ⟨h1, h2⟩, by rw [e, e1, e2]; rfl⟩
theorem rd_Tms (fuel : Nat) : RdD Try.prog fuel 32 (fun r => ∃ l : List Tm, (∀ t ∈ l, t.ok) ∧ r = [.sl (l.map Tm.e)]) :=
  (rdD_slice (sz := 2) (e := 71) (by kernel_rfl) (by kernel_rfl) (by decide) fuel fun m _ => rd_Tm m).mono fun r ⟨rows, h1, h2, e⟩ => by
    obtain ⟨l, rfl, h3⟩ := rows_map h1
    exact ⟨l, h3, e⟩
theorem rd_Ln (fuel : Nat) : RdD Try.prog fuel 34 (fun r => ∃ x : Ln, x.ok ∧ r = [.int .i64 x.k, .sl (x.l.map Tm.e)]) :=
  (rdD_struct (fs := [(2, 0), (32, 1)]) (by kernel_rfl) (sz := 1 + 1) (by kernel_rfl) fuel fun m _ => frD_cons (by kernel_rfl) (rd_int64 m) (frD_last (by kernel_rfl) (rd_Tms m))).mono
    fun r ⟨a, b, ⟨x, h1, e1⟩, ⟨y, h2, e2⟩, e⟩ => ⟨⟨x, y⟩, ⟨h1, h2⟩, by rw [e, e1, e2]; rfl⟩
theorem rd_Cn (fuel : Nat) : RdD Try.prog fuel 40 (fun r => ∃ x : Cn, x.ok ∧ r = [.int .i64 x.rel, .int .i64 x.s.k, .sl (x.s.l.map Tm.e)]) :=
  (rdD_struct (fs := [(3, 0), (34, 1)]) (by kernel_rfl) (sz := 1 + 2) (by kernel_rfl) fuel fun m _ => frD_cons (by kernel_rfl) (rd_int m) (frD_last (by kernel_rfl) (rd_Ln m))).mono
    fun r ⟨a, b, ⟨x, h1, e1⟩, ⟨y, h2, e2⟩, e⟩ => ⟨⟨x, y⟩, ⟨h1, h2⟩, by rw [e, e1, e2]; rfl⟩
theorem rd_ints (fuel : Nat) : RdD Try.prog fuel 41 (fun r => ∃ l : List Int, I64 l ∧ r = [.sl (l.map ic)]) :=
  (rdD_slice (sz := 1) (e := 2) (by kernel_rfl) (by kernel_rfl) (by decide) fuel fun m _ => rd_int64 m).mono fun r ⟨rows, h1, h2, e⟩ => by
    obtain ⟨l, rfl, h3⟩ := rows_map (f := ic) (p := R64) h1
    exact ⟨l, h3, e⟩
end Go.Proofs.Ytlafnhpmhflnaaa.Q
