/-
  NARROWER THAN 'FOR EVERY INPUT', by the rows' own cells (each row's printed sentence says how): LinOf: loops · LinWorth: loops.
  DERIVED. THE GIVEN ROWS OF THIS SEAT. 6 by the template 'for every input the law returns true; each argument reads behind the call as it read before'; 0 by the template 'total and deterministic' (their statements: YtlafnhpmhflnaaaTotals.lean).
  GIVEN WITH THE SEED: the statements are not yours to turn. If you find one false, say at which input.
  Laid BY PROGRAM, IN A SANDBOX (cutbox-rows.mjs): the forced cells as the released guide's own fill.sh prints them over the translation 490963cce009d3e8… (all of the seat's roots in one cut). By AI agents, Wed Nov 11 2026. No macro, syntax, notation, axiom, sorry.
-/
import Derived.Test.YtlafnhpmhflnaaaChecked
import GoSem.Claim
import GoSem.ClaimJoined
import GoSem.ClaimMapViews
import Derived.JoinedTies
import Derived.KernelRfl
namespace Go.Proofs.Ytlafnhpmhflnaaa
/- THE CELL 'sum', in the pinned program and in every row, IS THE sha256 OF THE DUMP (.gsa) THAT YtlafnhpmhflnaaaProg.lean LOADS. Nothing in Lean hashes anything: it is a label: what it is worth is what the hold of that sum in a sandbox is worth. -/
noncomputable def Try.pinned : Pinned := { name := "ytlafnhpmhflnaaa", sum := "490963cce009d3e83887dd3c3ef3b4af5d4579c7f77cb95e94da771674f672a4", checked := Try.checked }
namespace Rows
def none {H : Type} : Left H := { results := [], args := [] }

/-- 'vigillaw19.LinOf': WHATEVER THE INPUT: true; the input reads as it did. -/
def linOfSpec : ChangeSpec := { name := "linOf", fn := fun _ => fun
  | [d1, d2] => { results := [.lit (.bool true)], args := [d1, d2] }
  | _ => none }
def linOfRow : OpenClaim := { program := "ytlafnhpmhflnaaa", sum := "490963cce009d3e83887dd3c3ef3b4af5d4579c7f77cb95e94da771674f672a4", func := "vigil/vigillaw19.LinOf", spec := "linOf", inPlace := ["internal/bytealg.IndexByteString"], unfollowed := true, recurses := true, loops := true, apart := false }
def LinOfSaid : Prop := linOfRow.holds Try.pinned (OpenSpec.ofChange linOfSpec)

/-- ITS FALSE NEIGHBOUR: 'it returns false'. Refute it at one input. -/
def linOfWrong : ChangeSpec := { name := "linOf", fn := fun _ => fun
  | [d1, d2] => { results := [.lit (.bool false)], args := [d1, d2] }
  | _ => none }
def LinOfWrongFalsely : Prop := linOfRow.holds Try.pinned (OpenSpec.ofChange linOfWrong)

/-- 'vigillaw19.LinCons': WHATEVER THE INPUT: true; the input reads as it did. -/
def linConsSpec : ChangeSpec := { name := "linCons", fn := fun _ => fun
  | [d1, d2] => { results := [.lit (.bool true)], args := [d1, d2] }
  | _ => none }
def linConsRow : OpenClaim := { program := "ytlafnhpmhflnaaa", sum := "490963cce009d3e83887dd3c3ef3b4af5d4579c7f77cb95e94da771674f672a4", func := "vigil/vigillaw19.LinCons", spec := "linCons", inPlace := ["internal/bytealg.IndexByteString"], unfollowed := true, recurses := true, apart := false }
def LinConsSaid : Prop := linConsRow.holds Try.pinned (OpenSpec.ofChange linConsSpec)

/-- ITS FALSE NEIGHBOUR: 'it returns false'. Refute it at one input. -/
def linConsWrong : ChangeSpec := { name := "linCons", fn := fun _ => fun
  | [d1, d2] => { results := [.lit (.bool false)], args := [d1, d2] }
  | _ => none }
def LinConsWrongFalsely : Prop := linConsRow.holds Try.pinned (OpenSpec.ofChange linConsWrong)

/-- 'vigillaw19.LinTight': WHATEVER THE INPUT: true; the input reads as it did. -/
def linTightSpec : ChangeSpec := { name := "linTight", fn := fun _ => fun
  | [d1, d2] => { results := [.lit (.bool true)], args := [d1, d2] }
  | _ => none }
def linTightRow : OpenClaim := { program := "ytlafnhpmhflnaaa", sum := "490963cce009d3e83887dd3c3ef3b4af5d4579c7f77cb95e94da771674f672a4", func := "vigil/vigillaw19.LinTight", spec := "linTight", inPlace := ["internal/bytealg.IndexByteString"], unfollowed := true, recurses := true, apart := false }
def LinTightSaid : Prop := linTightRow.holds Try.pinned (OpenSpec.ofChange linTightSpec)

/-- ITS FALSE NEIGHBOUR: 'it returns false'. Refute it at one input. -/
def linTightWrong : ChangeSpec := { name := "linTight", fn := fun _ => fun
  | [d1, d2] => { results := [.lit (.bool false)], args := [d1, d2] }
  | _ => none }
def LinTightWrongFalsely : Prop := linTightRow.holds Try.pinned (OpenSpec.ofChange linTightWrong)

/-- 'vigillaw19.LinSums': WHATEVER THE INPUT: true; the input reads as it did. -/
def linSumsSpec : ChangeSpec := { name := "linSums", fn := fun _ => fun
  | [d1, d2, d3, d4] => { results := [.lit (.bool true)], args := [d1, d2, d3, d4] }
  | _ => none }
def linSumsRow : OpenClaim := { program := "ytlafnhpmhflnaaa", sum := "490963cce009d3e83887dd3c3ef3b4af5d4579c7f77cb95e94da771674f672a4", func := "vigil/vigillaw19.LinSums", spec := "linSums", inPlace := ["internal/bytealg.IndexByteString"], unfollowed := true, recurses := true, apart := false }
def LinSumsSaid : Prop := linSumsRow.holds Try.pinned (OpenSpec.ofChange linSumsSpec)

/-- ITS FALSE NEIGHBOUR: 'it returns false'. Refute it at one input. -/
def linSumsWrong : ChangeSpec := { name := "linSums", fn := fun _ => fun
  | [d1, d2, d3, d4] => { results := [.lit (.bool false)], args := [d1, d2, d3, d4] }
  | _ => none }
def LinSumsWrongFalsely : Prop := linSumsRow.holds Try.pinned (OpenSpec.ofChange linSumsWrong)

/-- 'vigillaw19.LinPuts': WHATEVER THE INPUT: true; the input reads as it did. -/
def linPutsSpec : ChangeSpec := { name := "linPuts", fn := fun _ => fun
  | [d1, d2, d3, d4, d5] => { results := [.lit (.bool true)], args := [d1, d2, d3, d4, d5] }
  | _ => none }
def linPutsRow : OpenClaim := { program := "ytlafnhpmhflnaaa", sum := "490963cce009d3e83887dd3c3ef3b4af5d4579c7f77cb95e94da771674f672a4", func := "vigil/vigillaw19.LinPuts", spec := "linPuts", inPlace := ["internal/bytealg.IndexByteString"], unfollowed := true, recurses := true, apart := false }
def LinPutsSaid : Prop := linPutsRow.holds Try.pinned (OpenSpec.ofChange linPutsSpec)

/-- ITS FALSE NEIGHBOUR: 'it returns false'. Refute it at one input. -/
def linPutsWrong : ChangeSpec := { name := "linPuts", fn := fun _ => fun
  | [d1, d2, d3, d4, d5] => { results := [.lit (.bool false)], args := [d1, d2, d3, d4, d5] }
  | _ => none }
def LinPutsWrongFalsely : Prop := linPutsRow.holds Try.pinned (OpenSpec.ofChange linPutsWrong)

/-- 'vigillaw19.LinWorth': WHATEVER THE INPUT: true; the input reads as it did. -/
def linWorthSpec : ChangeSpec := { name := "linWorth", fn := fun _ => fun
  | [d1, d2, d3] => { results := [.lit (.bool true)], args := [d1, d2, d3] }
  | _ => none }
def linWorthRow : OpenClaim := { program := "ytlafnhpmhflnaaa", sum := "490963cce009d3e83887dd3c3ef3b4af5d4579c7f77cb95e94da771674f672a4", func := "vigil/vigillaw19.LinWorth", spec := "linWorth", inPlace := ["internal/bytealg.IndexByteString"], unfollowed := true, recurses := true, loops := true, apart := false }
def LinWorthSaid : Prop := linWorthRow.holds Try.pinned (OpenSpec.ofChange linWorthSpec)

/-- ITS FALSE NEIGHBOUR: 'it returns false'. Refute it at one input. -/
def linWorthWrong : ChangeSpec := { name := "linWorth", fn := fun _ => fun
  | [d1, d2, d3] => { results := [.lit (.bool false)], args := [d1, d2, d3] }
  | _ => none }
def LinWorthWrongFalsely : Prop := linWorthRow.holds Try.pinned (OpenSpec.ofChange linWorthWrong)

/- THE SECOND FORM. 'bulk': how many values and letters a reading holds, each counted each time it is reached (what is shared counts as often as it is met; a slice's spare places count too). A statement '..UptoSaid' is the law's where the arguments, and the package variables that the reading takes, are together of bulk at most 1048576: NARROWER than '..Said'. Prove '..Said' where nothing that the law and all that it calls make is longer than what came in: it says more and counts as full. Else prove '..UptoSaid'. A law counts once. -/
mutual
def uptoBulk {H : Type} : DataW H → Nat
  | .lit (.string bytes) => bytes.length + 1
  | .lit _ => 1
  | .nil => 1
  | .ptr d => uptoBulk d + 1
  | .slice elems spare => uptoBulkAll elems + uptoBulkAll spare + 1
  | .agg parts => uptoBulkAll parts + 1
  | .iface _ d => uptoBulk d + 1
  | .map entries => uptoBulkEntries entries + 1
  | .held _ => 1
def uptoBulkAll {H : Type} : List (DataW H) → Nat
  | [] => 0
  | d :: r => uptoBulk d + uptoBulkAll r
def uptoBulkEntries {H : Type} : List (Lit × DataW H) → Nat
  | [] => 0
  | x :: r => uptoBulkEntry x + uptoBulkEntries r
def uptoBulkEntry {H : Type} : Lit × DataW H → Nat
  | (.string bytes, d) => bytes.length + uptoBulk d + 1
  | (_, d) => uptoBulk d + 1
 end
def uptoSmall : (H : Type) → List (DataW H) → Bool := fun _ ds => decide (uptoBulkAll ds ≤ 1048576)
def OpenSpec.upto (s : _root_.Go.ChangeSpec) : _root_.Go.OpenSpec := { _root_.Go.OpenSpec.ofChange s with cond := some uptoSmall }

/-- 'vigillaw19.LinOf', WHERE WHAT IT READS IS OF BULK AT MOST 1048576: true; the input reads as it did. -/
def linOfUptoRow : OpenClaim := { program := "ytlafnhpmhflnaaa", sum := "490963cce009d3e83887dd3c3ef3b4af5d4579c7f77cb95e94da771674f672a4", func := "vigil/vigillaw19.LinOf", spec := "linOf", inPlace := ["internal/bytealg.IndexByteString"], unfollowed := true, recurses := true, loops := true, apart := false, narrowed := true }
def LinOfUptoSaid : Prop := linOfUptoRow.holds Try.pinned (OpenSpec.upto linOfSpec)

/-- 'vigillaw19.LinCons', WHERE WHAT IT READS IS OF BULK AT MOST 1048576: true; the input reads as it did. -/
def linConsUptoRow : OpenClaim := { program := "ytlafnhpmhflnaaa", sum := "490963cce009d3e83887dd3c3ef3b4af5d4579c7f77cb95e94da771674f672a4", func := "vigil/vigillaw19.LinCons", spec := "linCons", inPlace := ["internal/bytealg.IndexByteString"], unfollowed := true, recurses := true, apart := false, narrowed := true }
def LinConsUptoSaid : Prop := linConsUptoRow.holds Try.pinned (OpenSpec.upto linConsSpec)

/-- 'vigillaw19.LinTight', WHERE WHAT IT READS IS OF BULK AT MOST 1048576: true; the input reads as it did. -/
def linTightUptoRow : OpenClaim := { program := "ytlafnhpmhflnaaa", sum := "490963cce009d3e83887dd3c3ef3b4af5d4579c7f77cb95e94da771674f672a4", func := "vigil/vigillaw19.LinTight", spec := "linTight", inPlace := ["internal/bytealg.IndexByteString"], unfollowed := true, recurses := true, apart := false, narrowed := true }
def LinTightUptoSaid : Prop := linTightUptoRow.holds Try.pinned (OpenSpec.upto linTightSpec)

/-- 'vigillaw19.LinSums', WHERE WHAT IT READS IS OF BULK AT MOST 1048576: true; the input reads as it did. -/
def linSumsUptoRow : OpenClaim := { program := "ytlafnhpmhflnaaa", sum := "490963cce009d3e83887dd3c3ef3b4af5d4579c7f77cb95e94da771674f672a4", func := "vigil/vigillaw19.LinSums", spec := "linSums", inPlace := ["internal/bytealg.IndexByteString"], unfollowed := true, recurses := true, apart := false, narrowed := true }
def LinSumsUptoSaid : Prop := linSumsUptoRow.holds Try.pinned (OpenSpec.upto linSumsSpec)

/-- 'vigillaw19.LinPuts', WHERE WHAT IT READS IS OF BULK AT MOST 1048576: true; the input reads as it did. -/
def linPutsUptoRow : OpenClaim := { program := "ytlafnhpmhflnaaa", sum := "490963cce009d3e83887dd3c3ef3b4af5d4579c7f77cb95e94da771674f672a4", func := "vigil/vigillaw19.LinPuts", spec := "linPuts", inPlace := ["internal/bytealg.IndexByteString"], unfollowed := true, recurses := true, apart := false, narrowed := true }
def LinPutsUptoSaid : Prop := linPutsUptoRow.holds Try.pinned (OpenSpec.upto linPutsSpec)

/-- 'vigillaw19.LinWorth', WHERE WHAT IT READS IS OF BULK AT MOST 1048576: true; the input reads as it did. -/
def linWorthUptoRow : OpenClaim := { program := "ytlafnhpmhflnaaa", sum := "490963cce009d3e83887dd3c3ef3b4af5d4579c7f77cb95e94da771674f672a4", func := "vigil/vigillaw19.LinWorth", spec := "linWorth", inPlace := ["internal/bytealg.IndexByteString"], unfollowed := true, recurses := true, loops := true, apart := false, narrowed := true }
def LinWorthUptoSaid : Prop := linWorthUptoRow.holds Try.pinned (OpenSpec.upto linWorthSpec)

end Rows
end Go.Proofs.Ytlafnhpmhflnaaa
