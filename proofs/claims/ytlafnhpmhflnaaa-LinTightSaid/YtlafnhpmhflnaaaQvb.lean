/- Programs as trees: what is said of them, and their cells. No condition. -/
import Derived.Test.YtlafnhpmhflnaaaQu
set_option linter.unusedVariables false
set_option linter.unusedSectionVars false
set_option linter.unusedSimpArgs false
namespace Go.Proofs.Ytlafnhpmhflnaaa.Q
open Go.RowKit
abbrev Str := List UInt8
structure Ex where
  op : Int
  mon : Str
  name : Str
  n : Int
  kids : List Ex
  pl : Int
structure St where
  kind : Int
  mon : Str
  name : Str
  n : Int
  e : Ex
  blocks : List (List St)
  pl : Int
structure Vr where
  name : Str
  type : Int
  lo : Int
  hi : Int
  init : Int
  pl : Int
structure Mt where
  name : Str
  body : List St
  pl : Int
structure Mo where
  name : Str
  vars : List Vr
  methods : List Mt
  pl : Int
structure Ro where
  name : Str
  star : Bool
  count : Int
  body : List St
  pl : Int
structure Pg where
  mons : List Mo
  roles : List Ro
mutual
def Ex.e : Ex → List D
  | ⟨op, mon, name, n, kids, pl⟩ => [.int .i64 op, .str mon, .str name, .int .i64 n, .sl (Ex.es kids), .int .i64 pl]
def Ex.es : List Ex → List (List D)
  | [] => []
  | x :: r => x.e :: Ex.es r
end
theorem Ex.es_map : ∀ l : List Ex, Ex.es l = l.map Ex.e
  | [] => by simp [Ex.es]
  | x :: r => by rw [Ex.es, Ex.es_map r]; rfl
theorem Ex.e_eq (x : Ex) : x.e = [.int .i64 x.op, .str x.mon, .str x.name, .int .i64 x.n, .sl (x.kids.map Ex.e), .int .i64 x.pl] := by
  cases x; rw [Ex.e, Ex.es_map]
mutual
def St.c : St → List D
  | ⟨kind, mon, name, n, e, blocks, pl⟩ => [.int .i64 kind, .str mon, .str name, .int .i64 n] ++ e.e ++ [.sl (St.bs blocks), .int .i64 pl]
def St.bs : List (List St) → List (List D)
  | [] => []
  | b :: r => [.sl (St.cs b)] :: St.bs r
def St.cs : List St → List (List D)
  | [] => []
  | x :: r => x.c :: St.cs r
end
/-- A block, as a cell. -/
def blk (b : List St) : List D := [.sl (b.map St.c)]
theorem St.cs_map : ∀ l : List St, St.cs l = l.map St.c
  | [] => by simp [St.cs]
  | x :: r => by rw [St.cs, St.cs_map r]; rfl
theorem St.bs_map : ∀ l : List (List St), St.bs l = l.map blk
  | [] => by simp [St.bs]
  | x :: r => by rw [St.bs, St.bs_map r, St.cs_map]; rfl
theorem St.c_eq (x : St) : x.c = [.int .i64 x.kind, .str x.mon, .str x.name, .int .i64 x.n] ++ x.e.e ++ [.sl (x.blocks.map blk), .int .i64 x.pl] := by
  cases x; rw [St.c, St.bs_map]
def Vr.c (x : Vr) : List D := [.str x.name, .int .i64 x.type, .int .i64 x.lo, .int .i64 x.hi, .int .i64 x.init, .int .i64 x.pl]
def Mt.c (x : Mt) : List D := [.str x.name, .sl (x.body.map St.c), .int .i64 x.pl]
def Mo.c (x : Mo) : List D := [.str x.name, .sl (x.vars.map Vr.c), .sl (x.methods.map Mt.c), .int .i64 x.pl]
def Ro.c (x : Ro) : List D := [.str x.name, .bool x.star, .int .i64 x.count, .sl (x.body.map St.c), .int .i64 x.pl]
def Pg.v (x : Pg) : V := .agg [.d (.sl (x.mons.map Mo.c)), .d (.sl (x.roles.map Ro.c))]
end Go.Proofs.Ytlafnhpmhflnaaa.Q
