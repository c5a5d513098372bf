/- The program's types; numbers; programs as trees; how arguments are read. No condition. -/
import Derived.Test.YtblnfodnkacbbaaGreatDoorMC
import Derived.Test.YtblnfodnkacbbaaGreatDoorProg
import Derived.KernelRfl
import Derived.Tactics
import Derived.Laws.BitsLemmas
import Derived.Laws.MathBits
import Derived.Laws.Bits64
import Derived.RowKit
import Derived.ChangeArms
import Derived.Deep.Slices
import Derived.WideShapes
import Derived.ChangeShapes
set_option linter.unusedVariables false
set_option maxRecDepth 100000
namespace Go.Proofs.YtblnfodnkacbbaaGreatDoor.Q
def tab : List (Option TE) :=
  [some ⟨1, 0, .other, none, false⟩,
   some ⟨1, 8, .other, some (.d (.raw .nilFunc)), false⟩,
   some ⟨1, 8, .int .i64, some (.d (.int .i64 0)), false⟩,
   some ⟨1, 8, .int .i64, some (.d (.int .i64 0)), false⟩,
   some ⟨1, 1, .bool, some (.d (.bool false)), false⟩,
   some ⟨1, 1, .int .u8, some (.d (.int .u8 0)), false⟩,
   some ⟨1, 1, .int .u8, some (.d (.int .u8 0)), false⟩,
   some ⟨4, 24, .struct [(0, 2), (1, 3), (2, 4), (3, 6)], some (.agg [.d (.int .i64 0), .d (.int .i64 0), .d (.bool false), .d (.int .u8 0)]), true⟩,
   some ⟨4, 24, .struct [(0, 2), (1, 3), (2, 4), (3, 6)], some (.agg [.d (.int .i64 0), .d (.int .i64 0), .d (.bool false), .d (.int .u8 0)]), true⟩,
   some ⟨1, 16, .str, some (.d (.str [])), false⟩,
   some ⟨1, 16, .str, some (.d (.str [])), false⟩,
   some ⟨1, 16, .str, some (.d (.str [])), false⟩,
   some ⟨1, 8, .int .u64, some (.d (.int .u64 0)), false⟩,
   some ⟨2, 24, .struct [(0, 9), (1, 12)], some (.agg [.d (.str []), .d (.int .u64 0)]), false⟩,
   some ⟨2, 24, .struct [(0, 9), (1, 12)], some (.agg [.d (.str []), .d (.int .u64 0)]), false⟩,
   some ⟨1, 8, .ptr 386, some (.d (.raw (.pointer none))), false⟩,
   some ⟨1, 8, .ptr 389, some (.d (.raw (.pointer none))), false⟩,
   some ⟨1, 8, .ptr 396, some (.d (.raw (.pointer none))), false⟩,
   some ⟨1, 8, .struct [(0, 17)], some (.agg [.d (.raw (.pointer none))]), false⟩,
   some ⟨1, 8, .struct [(0, 17)], some (.agg [.d (.raw (.pointer none))]), false⟩,
   some ⟨1, 16, .other, some (.d (.raw .nilIface)), false⟩,
   some ⟨1, 4, .int .i32, some (.d (.int .i32 0)), false⟩,
   some ⟨1, 8, .int .i64, some (.d (.int .i64 0)), false⟩,
   some ⟨1, 24, .slice 3, some (.fsl []), false⟩,
   some ⟨1, 24, .slice 91, some (.fsl []), false⟩,
   some ⟨3, 56, .struct [(0, 24), (1, 24), (2, 3)], some (.agg [.fsl [], .fsl [], .d (.int .i64 0)]), false⟩,
   some ⟨3, 56, .struct [(0, 24), (1, 24), (2, 3)], some (.agg [.fsl [], .fsl [], .d (.int .i64 0)]), false⟩,
   some ⟨9, 120, .struct [(0, 3), (1, 22), (2, 3), (3, 3), (4, 23), (5, 3), (6, 26)], some (.agg [.d (.int .i64 0), .d (.int .i64 0), .d (.int .i64 0), .d (.int .i64 0), .fsl [], .d (.int .i64 0), .fsl [], .fsl [], .d (.int .i64 0)]), false⟩,
   some ⟨9, 120, .struct [(0, 3), (1, 22), (2, 3), (3, 3), (4, 23), (5, 3), (6, 26)], some (.agg [.d (.int .i64 0), .d (.int .i64 0), .d (.int .i64 0), .d (.int .i64 0), .fsl [], .d (.int .i64 0), .fsl [], .fsl [], .d (.int .i64 0)]), false⟩,
   some ⟨1, 8, .other, some (.d (.raw .nilFunc)), false⟩,
   some ⟨1, 8, .other, some (.d (.raw .nilFunc)), false⟩,
   some ⟨1, 0, .other, none, false⟩,
   some ⟨1, 8, .other, some (.d (.raw .nilFunc)), false⟩,
   some ⟨1, 0, .other, none, false⟩,
   some ⟨1, 8, .other, some (.d (.raw .nilFunc)), false⟩,
   some ⟨1, 0, .other, none, false⟩,
   some ⟨1, 8, .other, some (.d (.raw .nilFunc)), false⟩,
   some ⟨1, 0, .other, none, false⟩,
   some ⟨1, 8, .other, some (.d (.raw .nilFunc)), false⟩,
   some ⟨1, 8, .other, some (.d (.raw .nilFunc)), false⟩,
   some ⟨1, 8, .other, some (.d (.raw .nilFunc)), false⟩,
   some ⟨1, 8, .other, some (.d (.raw .nilFunc)), false⟩,
   some ⟨1, 24, .slice 73, some (.fsl []), false⟩,
   some ⟨1, 24, .slice 82, some (.fsl []), false⟩,
   some ⟨2, 48, .struct [(0, 42), (1, 43)], some (.agg [.fsl [], .fsl []]), false⟩,
   some ⟨2, 48, .struct [(0, 42), (1, 43)], some (.agg [.fsl [], .fsl []]), false⟩,
   some ⟨1, 24, .slice 127, some (.fsl []), false⟩,
   some ⟨3, 72, .struct [(0, 45), (2, 46)], some (.agg [.fsl [], .fsl [], .fsl []]), false⟩,
   some ⟨3, 72, .struct [(0, 45), (2, 46)], some (.agg [.fsl [], .fsl [], .fsl []]), false⟩,
   some ⟨1, 0, .other, none, false⟩,
   some ⟨1, 8, .other, some (.d (.raw .nilFunc)), false⟩,
   some ⟨1, 8, .other, some (.d (.raw .nilFunc)), false⟩,
   some ⟨1, 24, .slice 9, some (.fsl []), false⟩,
   some ⟨1, 8, .other, some (.d (.raw .nilFunc)), false⟩,
   some ⟨1, 8, .other, some (.d (.raw .nilFunc)), false⟩,
   some ⟨1, 8, .other, some (.d (.raw .nilFunc)), false⟩,
   some ⟨1, 8, .other, some (.d (.raw .nilFunc)), false⟩,
   some ⟨1, 8, .other, some (.d (.raw .nilFunc)), false⟩,
   some ⟨1, 24, .slice 20, some (.fsl []), false⟩,
   some ⟨1, 8, .other, some (.d (.raw .nilFunc)), false⟩,
   some ⟨1, 8, .other, some (.d (.raw .nilFunc)), false⟩,
   some ⟨1, 8, .other, some (.d (.raw .nilFunc)), false⟩,
   some ⟨1, 8, .other, some (.d (.raw .nilFunc)), false⟩,
   some ⟨1, 8, .other, some (.d (.raw .nilFunc)), false⟩,
   some ⟨1, 8, .other, some (.d (.raw .nilFunc)), false⟩,
   some ⟨1, 0, .other, none, false⟩,
   some ⟨1, 8, .other, some (.d (.raw .nilFunc)), false⟩,
   some ⟨1, 8, .other, some (.d (.raw .nilFunc)), false⟩,
   some ⟨1, 0, .other, none, false⟩,
   some ⟨1, 8, .other, some (.d (.raw .nilFunc)), false⟩,
   some ⟨1, 24, .slice 193, some (.fsl []), false⟩,
   some ⟨1, 24, .slice 180, some (.fsl []), false⟩,
   some ⟨4, 72, .struct [(0, 9), (1, 70), (2, 71), (3, 3)], some (.agg [.d (.str []), .fsl [], .fsl [], .d (.int .i64 0)]), false⟩,
   some ⟨4, 72, .struct [(0, 9), (1, 70), (2, 71), (3, 3)], some (.agg [.d (.str []), .fsl [], .fsl [], .d (.int .i64 0)]), false⟩,
   some ⟨1, 24, .slice 76, some (.fsl []), false⟩,
   some ⟨6, 80, .struct [(0, 3), (1, 9), (2, 9), (3, 2), (4, 74), (5, 3)], some (.agg [.d (.int .i64 0), .d (.str []), .d (.str []), .d (.int .i64 0), .fsl [], .d (.int .i64 0)]), false⟩,
   some ⟨6, 80, .struct [(0, 3), (1, 9), (2, 9), (3, 2), (4, 74), (5, 3)], some (.agg [.d (.int .i64 0), .d (.str []), .d (.str []), .d (.int .i64 0), .fsl [], .d (.int .i64 0)]), false⟩,
   some ⟨1, 24, .slice 80, some (.fsl []), false⟩,
   some ⟨12, 160, .struct [(0, 3), (1, 9), (2, 9), (3, 2), (4, 76), (10, 77), (11, 3)], some (.agg [.d (.int .i64 0), .d (.str []), .d (.str []), .d (.int .i64 0), .d (.int .i64 0), .d (.str []), .d (.str []), .d (.int .i64 0), .fsl [], .d (.int .i64 0), .fsl [], .d (.int .i64 0)]), false⟩,
   some ⟨12, 160, .struct [(0, 3), (1, 9), (2, 9), (3, 2), (4, 76), (10, 77), (11, 3)], some (.agg [.d (.int .i64 0), .d (.str []), .d (.str []), .d (.int .i64 0), .d (.int .i64 0), .d (.str []), .d (.str []), .d (.int .i64 0), .fsl [], .d (.int .i64 0), .fsl [], .d (.int .i64 0)]), false⟩,
   some ⟨1, 24, .slice 79, some (.fsl []), false⟩,
   some ⟨5, 64, .struct [(0, 9), (1, 4), (2, 2), (3, 80), (4, 3)], some (.agg [.d (.str []), .d (.bool false), .d (.int .i64 0), .fsl [], .d (.int .i64 0)]), false⟩,
   some ⟨5, 64, .struct [(0, 9), (1, 4), (2, 2), (3, 80), (4, 3)], some (.agg [.d (.str []), .d (.bool false), .d (.int .i64 0), .fsl [], .d (.int .i64 0)]), false⟩,
   some ⟨1, 24, .slice 134, some (.fsl []), false⟩,
   some ⟨1, 24, .slice 137, some (.fsl []), false⟩,
   some ⟨1, 24, .slice 2, some (.fsl []), false⟩,
   some ⟨3, 72, .struct [(0, 83), (1, 84), (2, 85)], some (.agg [.fsl [], .fsl [], .fsl []]), false⟩,
   some ⟨3, 72, .struct [(0, 83), (1, 84), (2, 85)], some (.agg [.fsl [], .fsl [], .fsl []]), false⟩,
   some ⟨1, 0, .other, none, false⟩,
   some ⟨1, 8, .other, some (.d (.raw .nilFunc)), false⟩,
   some ⟨3, 24, .struct [(0, 3), (1, 3), (2, 3)], some (.agg [.d (.int .i64 0), .d (.int .i64 0), .d (.int .i64 0)]), true⟩,
   some ⟨3, 24, .struct [(0, 3), (1, 3), (2, 3)], some (.agg [.d (.int .i64 0), .d (.int .i64 0), .d (.int .i64 0)]), true⟩,
   some ⟨1, 0, .other, none, false⟩,
   some ⟨6, 144, .struct [(0, 48), (3, 87)], some (.agg [.fsl [], .fsl [], .fsl [], .fsl [], .fsl [], .fsl []]), false⟩,
   some ⟨6, 144, .struct [(0, 48), (3, 87)], some (.agg [.fsl [], .fsl [], .fsl [], .fsl [], .fsl [], .fsl []]), false⟩,
   some ⟨1, 8, .other, some (.d (.raw .nilFunc)), false⟩,
   some ⟨1, 8, .other, some (.d (.raw .nilFunc)), false⟩,
   some ⟨1, 8, .other, some (.d (.raw .nilFunc)), false⟩,
   some ⟨1, 8, .other, some (.d (.raw .nilFunc)), false⟩,
   some ⟨1, 24, .slice 101, some (.fsl []), false⟩,
   some ⟨2, 16, .struct [(0, 3), (1, 3)], some (.agg [.d (.int .i64 0), .d (.int .i64 0)]), true⟩,
   some ⟨2, 16, .struct [(0, 3), (1, 3)], some (.agg [.d (.int .i64 0), .d (.int .i64 0)]), true⟩,
   some ⟨1, 8, .other, some (.d (.raw .nilFunc)), false⟩,
   some ⟨1, 8, .other, some (.d (.raw .nilFunc)), false⟩,
   some ⟨1, 8, .other, some (.d (.raw .nilFunc)), false⟩,
   some ⟨1, 8, .other, some (.d (.raw .nilFunc)), false⟩,
   some ⟨1, 8, .other, some (.d (.raw .nilFunc)), false⟩,
   some ⟨1, 8, .other, some (.d (.raw .nilFunc)), false⟩,
   some ⟨1, 8, .other, some (.d (.raw .nilFunc)), false⟩,
   some ⟨1, 16, .other, some (.d (.raw .nilIface)), false⟩,
   some ⟨1, 16, .other, some (.d (.raw .nilIface)), false⟩,
   some ⟨1, 0, .other, none, false⟩,
   some ⟨1, 8, .other, some (.d (.raw .nilFunc)), false⟩,
   some ⟨1, 0, .other, none, false⟩,
   some ⟨1, 8, .other, some (.d (.raw .nilFunc)), false⟩,
   some ⟨1, 0, .other, none, false⟩,
   some ⟨1, 8, .other, some (.d (.raw .nilFunc)), false⟩,
   some ⟨1, 0, .other, none, false⟩,
   some ⟨1, 8, .other, some (.d (.raw .nilFunc)), false⟩,
   some ⟨1, 0, .other, none, false⟩,
   some ⟨1, 8, .other, some (.d (.raw .nilFunc)), false⟩,
   some ⟨1, 8, .other, some (.d (.raw .nilFunc)), false⟩,
   some ⟨1, 0, .other, none, false⟩,
   some ⟨1, 8, .other, some (.d (.raw .nilFunc)), false⟩,
   some ⟨1, 24, .slice 195, some (.fsl []), false⟩,
   some ⟨1, 24, .slice 251, some (.fsl []), false⟩,
   some ⟨5, 80, .struct [(0, 9), (1, 4), (2, 3), (3, 124), (4, 125)], some (.agg [.d (.str []), .d (.bool false), .d (.int .i64 0), .fsl [], .fsl []]), false⟩,
   some ⟨5, 80, .struct [(0, 9), (1, 4), (2, 3), (3, 124), (4, 125)], some (.agg [.d (.str []), .d (.bool false), .d (.int .i64 0), .fsl [], .fsl []]), false⟩,
   some ⟨1, 0, .other, none, false⟩,
   some ⟨1, 8, .other, some (.d (.raw .nilFunc)), false⟩,
   some ⟨1, 0, .other, none, false⟩,
   some ⟨1, 8, .other, some (.d (.raw .nilFunc)), false⟩,
   some ⟨1, 8, .other, some (.d (.raw .nilFunc)), false⟩,
   some ⟨5, 40, .struct [(0, 3), (1, 3), (2, 3), (3, 2), (4, 3)], some (.agg [.d (.int .i64 0), .d (.int .i64 0), .d (.int .i64 0), .d (.int .i64 0), .d (.int .i64 0)]), true⟩,
   some ⟨5, 40, .struct [(0, 3), (1, 3), (2, 3), (3, 2), (4, 3)], some (.agg [.d (.int .i64 0), .d (.int .i64 0), .d (.int .i64 0), .d (.int .i64 0), .d (.int .i64 0)]), true⟩,
   some ⟨1, 8, .other, some (.d (.raw .nilFunc)), false⟩,
   some ⟨2, 16, .struct [(0, 3), (1, 3)], some (.agg [.d (.int .i64 0), .d (.int .i64 0)]), true⟩,
   some ⟨2, 16, .struct [(0, 3), (1, 3)], some (.agg [.d (.int .i64 0), .d (.int .i64 0)]), true⟩,
   some ⟨2, 32, .struct [(0, 3), (1, 23)], some (.agg [.d (.int .i64 0), .fsl []]), false⟩,
   some ⟨2, 32, .struct [(0, 3), (1, 23)], some (.agg [.d (.int .i64 0), .fsl []]), false⟩,
   some ⟨1, 0, .other, none, false⟩,
   some ⟨1, 8, .other, some (.d (.raw .nilFunc)), false⟩,
   some ⟨1, 8, .other, some (.d (.raw .nilFunc)), false⟩,
   some ⟨1, 8, .other, some (.d (.raw .nilFunc)), false⟩,
   some ⟨1, 24, .slice 87, some (.fsl []), false⟩,
   some ⟨1, 24, .slice 139, some (.fsl []), false⟩,
   some ⟨4, 56, .struct [(0, 144), (1, 145), (2, 4), (3, 4)], some (.agg [.fsl [], .fsl [], .d (.bool false), .d (.bool false)]), false⟩,
   some ⟨4, 56, .struct [(0, 144), (1, 145), (2, 4), (3, 4)], some (.agg [.fsl [], .fsl [], .d (.bool false), .d (.bool false)]), false⟩,
   some ⟨1, 8, .other, some (.d (.raw .nilFunc)), false⟩,
   some ⟨1, 8, .other, some (.d (.raw .nilFunc)), false⟩,
   some ⟨8, 152, .struct [(0, 147), (4, 48), (7, 24)], some (.agg [.fsl [], .fsl [], .d (.bool false), .d (.bool false), .fsl [], .fsl [], .fsl [], .fsl []]), false⟩,
   some ⟨8, 152, .struct [(0, 147), (4, 48), (7, 24)], some (.agg [.fsl [], .fsl [], .d (.bool false), .d (.bool false), .fsl [], .fsl [], .fsl [], .fsl []]), false⟩,
   some ⟨1, 8, .other, some (.d (.raw .nilFunc)), false⟩,
   some ⟨1, 8, .other, some (.d (.raw .nilFunc)), false⟩,
   some ⟨1, 8, .other, some (.d (.raw .nilFunc)), false⟩,
   some ⟨1, 8, .other, some (.d (.raw .nilFunc)), false⟩,
   some ⟨1, 8, .other, some (.d (.raw .nilFunc)), false⟩,
   some ⟨1, 0, .other, none, false⟩,
   some ⟨1, 8, .other, some (.d (.raw .nilFunc)), false⟩,
   some ⟨1, 8, .other, some (.d (.raw .nilFunc)), false⟩,
   some ⟨1, 8, .other, some (.d (.raw .nilFunc)), false⟩,
   some ⟨1, 8, .ptr 164, some (.d (.raw (.pointer none))), false⟩,
   some ⟨1, 24, .slice 5, some (.fsl []), false⟩,
   some ⟨2, 32, .struct [(0, 161), (1, 162)], some (.agg [.d (.raw (.pointer none)), .d (.raw (.slice none 0 0))]), false⟩,
   some ⟨2, 32, .struct [(0, 161), (1, 162)], some (.agg [.d (.raw (.pointer none)), .d (.raw (.slice none 0 0))]), false⟩,
   some ⟨1, 8, .other, some (.d (.raw .nilFunc)), false⟩,
   some ⟨1, 8, .other, some (.d (.raw .nilFunc)), false⟩,
   some ⟨1, 0, .other, none, false⟩,
   some ⟨1, 8, .other, some (.d (.raw .nilFunc)), false⟩,
   some ⟨1, 8, .other, some (.d (.raw .nilFunc)), false⟩,
   some ⟨1, 8, .other, some (.d (.raw .nilFunc)), false⟩,
   some ⟨1, 8, .other, some (.d (.raw .nilFunc)), false⟩,
   some ⟨1, 0, .other, none, false⟩,
   some ⟨1, 8, .other, some (.d (.raw .nilFunc)), false⟩,
   some ⟨1, 8, .int .u64, some (.d (.int .u64 0)), false⟩,
   some ⟨1, 8, .other, some (.d (.raw .nilFunc)), false⟩,
   some ⟨1, 0, .other, none, false⟩,
   some ⟨1, 8, .other, some (.d (.raw .nilFunc)), false⟩,
   some ⟨1, 8, .other, some (.d (.raw .nilFunc)), false⟩,
   some ⟨3, 48, .struct [(0, 9), (1, 80), (2, 3)], some (.agg [.d (.str []), .fsl [], .d (.int .i64 0)]), false⟩,
   some ⟨3, 48, .struct [(0, 9), (1, 80), (2, 3)], some (.agg [.d (.str []), .fsl [], .d (.int .i64 0)]), false⟩,
   some ⟨1, 0, .other, none, false⟩,
   some ⟨1, 8, .other, some (.d (.raw .nilFunc)), false⟩,
   some ⟨1, 8, .ptr 185, some (.d (.raw (.pointer none))), false⟩,
   some ⟨7, 128, .struct [(0, 45), (2, 127)], some (.agg [.fsl [], .fsl [], .d (.str []), .d (.bool false), .d (.int .i64 0), .fsl [], .fsl []]), false⟩,
   some ⟨7, 128, .struct [(0, 45), (2, 127)], some (.agg [.fsl [], .fsl [], .d (.str []), .d (.bool false), .d (.int .i64 0), .fsl [], .fsl []]), false⟩,
   some ⟨1, 8, .other, some (.d (.raw .nilFunc)), false⟩,
   some ⟨8, 96, .struct [(0, 4), (1, 76), (7, 4)], some (.agg [.d (.bool false), .d (.int .i64 0), .d (.str []), .d (.str []), .d (.int .i64 0), .fsl [], .d (.int .i64 0), .d (.bool false)]), false⟩,
   some ⟨8, 96, .struct [(0, 4), (1, 76), (7, 4)], some (.agg [.d (.bool false), .d (.int .i64 0), .d (.str []), .d (.str []), .d (.int .i64 0), .fsl [], .d (.int .i64 0), .d (.bool false)]), false⟩,
   some ⟨1, 8, .other, some (.d (.raw .nilFunc)), false⟩,
   some ⟨1, 8, .other, some (.d (.raw .nilFunc)), false⟩,
   some ⟨1, 8, .other, some (.d (.raw .nilFunc)), false⟩,
   some ⟨6, 56, .struct [(0, 9), (1, 3), (2, 2), (3, 2), (4, 2), (5, 3)], some (.agg [.d (.str []), .d (.int .i64 0), .d (.int .i64 0), .d (.int .i64 0), .d (.int .i64 0), .d (.int .i64 0)]), true⟩,
   some ⟨6, 56, .struct [(0, 9), (1, 3), (2, 2), (3, 2), (4, 2), (5, 3)], some (.agg [.d (.str []), .d (.int .i64 0), .d (.int .i64 0), .d (.int .i64 0), .d (.int .i64 0), .d (.int .i64 0)]), true⟩,
   some ⟨15, 152, .struct [(0, 3), (1, 3), (2, 3), (3, 3), (4, 3), (5, 76), (11, 2), (12, 3), (13, 3), (14, 3)], some (.agg [.d (.int .i64 0), .d (.int .i64 0), .d (.int .i64 0), .d (.int .i64 0), .d (.int .i64 0), .d (.int .i64 0), .d (.str []), .d (.str []), .d (.int .i64 0), .fsl [], .d (.int .i64 0), .d (.int .i64 0), .d (.int .i64 0), .d (.int .i64 0), .d (.int .i64 0)]), false⟩,
   some ⟨15, 152, .struct [(0, 3), (1, 3), (2, 3), (3, 3), (4, 3), (5, 76), (11, 2), (12, 3), (13, 3), (14, 3)], some (.agg [.d (.int .i64 0), .d (.int .i64 0), .d (.int .i64 0), .d (.int .i64 0), .d (.int .i64 0), .d (.int .i64 0), .d (.str []), .d (.str []), .d (.int .i64 0), .fsl [], .d (.int .i64 0), .d (.int .i64 0), .d (.int .i64 0), .d (.int .i64 0), .d (.int .i64 0)]), false⟩,
   some ⟨1, 8, .ptr 201, some (.d (.raw (.pointer none))), false⟩,
   some ⟨1, 8, .other, some (.d (.raw .nilFunc)), false⟩,
   some ⟨1, 8, .other, some (.d (.raw .nilFunc)), false⟩,
   some ⟨1, 8, .other, some (.d (.raw .nilFunc)), false⟩,
   some ⟨7, 168, .struct [(0, 48), (3, 87), (6, 23)], some (.agg [.fsl [], .fsl [], .fsl [], .fsl [], .fsl [], .fsl [], .fsl []]), false⟩,
   some ⟨7, 168, .struct [(0, 48), (3, 87), (6, 23)], some (.agg [.fsl [], .fsl [], .fsl [], .fsl [], .fsl [], .fsl [], .fsl []]), false⟩,
   some ⟨1, 8, .other, some (.d (.raw .nilFunc)), false⟩,
   some ⟨1, 8, .other, some (.d (.raw .nilFunc)), false⟩,
   some ⟨1, 8, .other, some (.d (.raw .nilFunc)), false⟩,
   some ⟨1, 8, .other, some (.d (.raw .nilFunc)), false⟩,
   some ⟨1, 8, .other, some (.d (.raw .nilFunc)), false⟩,
   some ⟨1, 8, .other, some (.d (.raw .nilFunc)), false⟩,
   some ⟨1, 8, .other, some (.d (.raw .nilFunc)), false⟩,
   some ⟨1, 8, .other, some (.d (.raw .nilFunc)), false⟩,
   some ⟨1, 8, .other, some (.d (.raw .nilFunc)), false⟩,
   some ⟨1, 8, .other, some (.d (.raw .nilFunc)), false⟩,
   some ⟨1, 8, .other, some (.d (.raw .nilFunc)), false⟩,
   some ⟨1, 8, .other, some (.d (.raw .nilFunc)), false⟩,
   some ⟨1, 8, .other, some (.d (.raw .nilFunc)), false⟩,
   some ⟨1, 8, .other, some (.d (.raw .nilFunc)), false⟩,
   some ⟨1, 8, .other, some (.d (.raw .nilFunc)), false⟩,
   some ⟨1, 8, .map 3 4, some (.d (.set [])), false⟩,
   some ⟨1, 0, .other, none, false⟩,
   some ⟨1, 8, .other, some (.d (.raw .nilFunc)), false⟩,
   some ⟨1, 8, .other, some (.d (.raw .nilFunc)), false⟩,
   some ⟨1, 8, .other, some (.d (.raw .nilFunc)), false⟩,
   some ⟨1, 8, .other, some (.d (.raw .nilFunc)), false⟩,
   some ⟨1, 0, .other, none, false⟩,
   some ⟨1, 8, .other, some (.d (.raw .nilFunc)), false⟩,
   some ⟨1, 8, .other, some (.d (.raw .nilFunc)), false⟩,
   some ⟨1, 8, .ptr 5, some (.d (.raw (.pointer none))), false⟩,
   some ⟨1, 0, .other, none, false⟩,
   some ⟨1, 8, .other, some (.d (.raw .nilFunc)), false⟩,
   some ⟨1, 8, .other, some (.d (.raw .nilFunc)), false⟩,
   some ⟨1, 8, .int .i64, some (.d (.int .i64 0)), false⟩,
   some ⟨1, 0, .other, none, false⟩,
   some ⟨1, 8, .other, some (.d (.raw .nilFunc)), false⟩,
   some ⟨1, 8, .ptr 284, some (.d (.raw (.pointer none))), false⟩,
   some ⟨1, 8, .other, some (.d (.raw .nilFunc)), false⟩,
   some ⟨1, 8, .other, some (.d (.raw .nilFunc)), false⟩,
   some ⟨1, 8, .other, some (.d (.raw .nilFunc)), false⟩,
   some ⟨1, 8, .other, some (.d (.raw .nilFunc)), false⟩,
   some ⟨1, 8, .other, some (.d (.raw .nilFunc)), false⟩,
   some ⟨1, 8, .other, some (.d (.raw .nilFunc)), false⟩,
   some ⟨1, 0, .other, none, false⟩,
   some ⟨1, 8, .other, some (.d (.raw .nilFunc)), false⟩,
   some ⟨1, 8, .other, some (.d (.raw .nilFunc)), false⟩,
   some ⟨2, 32, .struct [(0, 9), (1, 9)], some (.agg [.d (.str []), .d (.str [])]), true⟩,
   some ⟨2, 32, .struct [(0, 9), (1, 9)], some (.agg [.d (.str []), .d (.str [])]), true⟩,
   some ⟨1, 8, .other, some (.d (.raw .nilFunc)), false⟩,
   some ⟨1, 8, .other, some (.d (.raw .nilFunc)), false⟩,
   some ⟨1, 8, .other, some (.d (.raw .nilFunc)), false⟩,
   some ⟨1, 0, .other, none, false⟩,
   some ⟨1, 8, .other, some (.d (.raw .nilFunc)), false⟩,
   some ⟨8, 96, .struct [(0, 3), (1, 76), (7, 4)], some (.agg [.d (.int .i64 0), .d (.int .i64 0), .d (.str []), .d (.str []), .d (.int .i64 0), .fsl [], .d (.int .i64 0), .d (.bool false)]), false⟩,
   some ⟨8, 96, .struct [(0, 3), (1, 76), (7, 4)], some (.agg [.d (.int .i64 0), .d (.int .i64 0), .d (.str []), .d (.str []), .d (.int .i64 0), .fsl [], .d (.int .i64 0), .d (.bool false)]), false⟩,
   some ⟨1, 8, .other, some (.d (.raw .nilFunc)), false⟩,
   some ⟨1, 8, .other, some (.d (.raw .nilFunc)), false⟩,
   some ⟨1, 8, .other, some (.d (.raw .nilFunc)), false⟩,
   some ⟨1, 8, .other, some (.d (.raw .nilFunc)), false⟩,
   some ⟨1, 8, .other, some (.d (.raw .nilFunc)), false⟩,
   some ⟨1, 8, .other, some (.d (.raw .nilFunc)), false⟩,
   some ⟨1, 8, .other, some (.d (.raw .nilFunc)), false⟩,
   some ⟨1, 8, .other, some (.d (.raw .nilFunc)), false⟩,
   some ⟨1, 8, .other, some (.d (.raw .nilFunc)), false⟩,
   some ⟨1, 8, .ptr 134, some (.d (.raw (.pointer none))), false⟩,
   some ⟨1, 8, .other, some (.d (.raw .nilFunc)), false⟩,
   some ⟨1, 8, .other, some (.d (.raw .nilFunc)), false⟩,
   some ⟨1, 8, .other, some (.d (.raw .nilFunc)), false⟩,
   some ⟨1, 8, .other, some (.d (.raw .nilFunc)), false⟩,
   some ⟨1, 8, .other, some (.d (.raw .nilFunc)), false⟩,
   some ⟨1, 8, .other, some (.d (.raw .nilFunc)), false⟩,
   some ⟨1, 8, .other, some (.d (.raw .nilFunc)), false⟩,
   some ⟨1, 8, .other, some (.d (.raw .nilFunc)), false⟩,
   some ⟨1, 8, .other, some (.d (.raw .nilFunc)), false⟩,
   some ⟨40, 40, .arr 40 4, some (.agg [.d (.bool false), .d (.bool false), .d (.bool false), .d (.bool false), .d (.bool false), .d (.bool false), .d (.bool false), .d (.bool false), .d (.bool false), .d (.bool false), .d (.bool false), .d (.bool false), .d (.bool false), .d (.bool false), .d (.bool false), .d (.bool false), .d (.bool false), .d (.bool false), .d (.bool false), .d (.bool false), .d (.bool false), .d (.bool false), .d (.bool false), .d (.bool false), .d (.bool false), .d (.bool false), .d (.bool false), .d (.bool false), .d (.bool false), .d (.bool false), .d (.bool false), .d (.bool false), .d (.bool false), .d (.bool false), .d (.bool false), .d (.bool false), .d (.bool false), .d (.bool false), .d (.bool false), .d (.bool false)]), false⟩,
   some ⟨24, 24, .arr 24 5, some (.agg [.d (.int .u8 0), .d (.int .u8 0), .d (.int .u8 0), .d (.int .u8 0), .d (.int .u8 0), .d (.int .u8 0), .d (.int .u8 0), .d (.int .u8 0), .d (.int .u8 0), .d (.int .u8 0), .d (.int .u8 0), .d (.int .u8 0), .d (.int .u8 0), .d (.int .u8 0), .d (.int .u8 0), .d (.int .u8 0), .d (.int .u8 0), .d (.int .u8 0), .d (.int .u8 0), .d (.int .u8 0), .d (.int .u8 0), .d (.int .u8 0), .d (.int .u8 0), .d (.int .u8 0)]), false⟩,
   some ⟨1, 8, .other, some (.d (.raw .nilFunc)), false⟩,
   some ⟨1, 8, .other, some (.d (.raw .nilFunc)), false⟩,
   some ⟨1, 0, .other, none, false⟩,
   some ⟨1, 8, .other, some (.d (.raw .nilFunc)), false⟩,
   some ⟨1, 8, .other, some (.d (.raw (.pointer none))), false⟩,
   some ⟨1, 8, .other, some (.d (.raw .nilFunc)), false⟩,
   some ⟨1, 8, .other, some (.d (.raw .nilFunc)), false⟩,
   some ⟨1, 8, .int .u64, some (.d (.int .u64 0)), false⟩,
   some ⟨1, 0, .other, none, false⟩,
   some ⟨1, 8, .other, some (.d (.raw .nilFunc)), false⟩,
   some ⟨3, 48, .struct [(0, 9), (1, 9), (2, 110)], some (.agg [.d (.str []), .d (.str []), .d (.raw .nilIface)]), false⟩,
   some ⟨3, 48, .struct [(0, 9), (1, 9), (2, 110)], some (.agg [.d (.str []), .d (.str []), .d (.raw .nilIface)]), false⟩,
   some ⟨1, 8, .other, some (.d (.raw .nilFunc)), false⟩,
   some ⟨1, 8, .other, some (.d (.raw .nilFunc)), false⟩,
   some ⟨1, 8, .other, some (.d (.raw .nilFunc)), false⟩,
   some ⟨1, 8, .other, some (.d (.raw .nilFunc)), false⟩,
   some ⟨1, 0, .other, none, false⟩,
   some ⟨1, 8, .other, some (.d (.raw .nilFunc)), false⟩,
   some ⟨1, 8, .other, some (.d (.raw .nilFunc)), false⟩,
   some ⟨1, 24, .slice 244, some (.fsl []), false⟩,
   some ⟨1, 8, .other, some (.d (.raw .nilFunc)), false⟩,
   some ⟨1, 8, .other, some (.d (.raw .nilFunc)), false⟩,
   some ⟨1, 8, .other, some (.d (.raw .nilFunc)), false⟩,
   some ⟨1, 8, .other, some (.d (.raw .nilFunc)), false⟩,
   some ⟨1, 8, .other, some (.d (.raw .nilFunc)), false⟩,
   some ⟨1, 8, .other, some (.d (.raw .nilFunc)), false⟩,
   some ⟨1, 8, .other, some (.d (.raw .nilFunc)), false⟩,
   some ⟨1, 8, .other, some (.d (.raw .nilFunc)), false⟩,
   some ⟨1, 0, .other, none, false⟩,
   some ⟨1, 8, .other, some (.d (.raw .nilFunc)), false⟩,
   some ⟨1, 8, .other, some (.d (.raw .nilFunc)), false⟩,
   some ⟨1, 8, .other, some (.d (.raw .nilFunc)), false⟩,
   some ⟨1, 8, .other, some (.d (.raw .nilFunc)), false⟩,
   some ⟨1, 8, .ptr 312, some (.d (.raw (.pointer none))), false⟩,
   some ⟨1, 8, .other, some (.d (.raw .nilFunc)), false⟩,
   some ⟨1, 8, .other, some (.d (.raw .nilFunc)), false⟩,
   some ⟨1, 8, .other, some (.d (.raw .nilFunc)), false⟩,
   some ⟨1, 8, .map 3 9, some (.d (.set [])), false⟩,
   some ⟨4, 48, .struct [(0, 164), (2, 3), (3, 310)], some (.agg [.d (.raw (.pointer none)), .d (.raw (.slice none 0 0)), .d (.int .i64 0), .d (.set [])]), false⟩,
   some ⟨4, 48, .struct [(0, 164), (2, 3), (3, 310)], some (.agg [.d (.raw (.pointer none)), .d (.raw (.slice none 0 0)), .d (.int .i64 0), .d (.set [])]), false⟩,
   some ⟨1, 8, .other, some (.d (.raw .nilFunc)), false⟩,
   some ⟨20, 160, .arr 20 174, some (.agg [.d (.int .u64 0), .d (.int .u64 0), .d (.int .u64 0), .d (.int .u64 0), .d (.int .u64 0), .d (.int .u64 0), .d (.int .u64 0), .d (.int .u64 0), .d (.int .u64 0), .d (.int .u64 0), .d (.int .u64 0), .d (.int .u64 0), .d (.int .u64 0), .d (.int .u64 0), .d (.int .u64 0), .d (.int .u64 0), .d (.int .u64 0), .d (.int .u64 0), .d (.int .u64 0), .d (.int .u64 0)]), false⟩,
   some ⟨1, 4, .int .u32, some (.d (.int .u32 0)), false⟩,
   some ⟨65, 65, .arr 65 5, some (.agg [.d (.int .u8 0), .d (.int .u8 0), .d (.int .u8 0), .d (.int .u8 0), .d (.int .u8 0), .d (.int .u8 0), .d (.int .u8 0), .d (.int .u8 0), .d (.int .u8 0), .d (.int .u8 0), .d (.int .u8 0), .d (.int .u8 0), .d (.int .u8 0), .d (.int .u8 0), .d (.int .u8 0), .d (.int .u8 0), .d (.int .u8 0), .d (.int .u8 0), .d (.int .u8 0), .d (.int .u8 0), .d (.int .u8 0), .d (.int .u8 0), .d (.int .u8 0), .d (.int .u8 0), .d (.int .u8 0), .d (.int .u8 0), .d (.int .u8 0), .d (.int .u8 0), .d (.int .u8 0), .d (.int .u8 0), .d (.int .u8 0), .d (.int .u8 0), .d (.int .u8 0), .d (.int .u8 0), .d (.int .u8 0), .d (.int .u8 0), .d (.int .u8 0), .d (.int .u8 0), .d (.int .u8 0), .d (.int .u8 0), .d (.int .u8 0), .d (.int .u8 0), .d (.int .u8 0), .d (.int .u8 0), .d (.int .u8 0), .d (.int .u8 0), .d (.int .u8 0), .d (.int .u8 0), .d (.int .u8 0), .d (.int .u8 0), .d (.int .u8 0), .d (.int .u8 0), .d (.int .u8 0), .d (.int .u8 0), .d (.int .u8 0), .d (.int .u8 0), .d (.int .u8 0), .d (.int .u8 0), .d (.int .u8 0), .d (.int .u8 0), .d (.int .u8 0), .d (.int .u8 0), .d (.int .u8 0), .d (.int .u8 0), .d (.int .u8 0)]), false⟩,
   some ⟨1, 8, .other, some (.d (.raw .nilFunc)), false⟩,
   some ⟨256, 256, .arr 256 5, some (.agg [.d (.int .u8 0), .d (.int .u8 0), .d (.int .u8 0), .d (.int .u8 0), .d (.int .u8 0), .d (.int .u8 0), .d (.int .u8 0), .d (.int .u8 0), .d (.int .u8 0), .d (.int .u8 0), .d (.int .u8 0), .d (.int .u8 0), .d (.int .u8 0), .d (.int .u8 0), .d (.int .u8 0), .d (.int .u8 0), .d (.int .u8 0), .d (.int .u8 0), .d (.int .u8 0), .d (.int .u8 0), .d (.int .u8 0), .d (.int .u8 0), .d (.int .u8 0), .d (.int .u8 0), .d (.int .u8 0), .d (.int .u8 0), .d (.int .u8 0), .d (.int .u8 0), .d (.int .u8 0), .d (.int .u8 0), .d (.int .u8 0), .d (.int .u8 0), .d (.int .u8 0), .d (.int .u8 0), .d (.int .u8 0), .d (.int .u8 0), .d (.int .u8 0), .d (.int .u8 0), .d (.int .u8 0), .d (.int .u8 0), .d (.int .u8 0), .d (.int .u8 0), .d (.int .u8 0), .d (.int .u8 0), .d (.int .u8 0), .d (.int .u8 0), .d (.int .u8 0), .d (.int .u8 0), .d (.int .u8 0), .d (.int .u8 0), .d (.int .u8 0), .d (.int .u8 0), .d (.int .u8 0), .d (.int .u8 0), .d (.int .u8 0), .d (.int .u8 0), .d (.int .u8 0), .d (.int .u8 0), .d (.int .u8 0), .d (.int .u8 0), .d (.int .u8 0), .d (.int .u8 0), .d (.int .u8 0), .d (.int .u8 0), .d (.int .u8 0), .d (.int .u8 0), .d (.int .u8 0), .d (.int .u8 0), .d (.int .u8 0), .d (.int .u8 0), .d (.int .u8 0), .d (.int .u8 0), .d (.int .u8 0), .d (.int .u8 0), .d (.int .u8 0), .d (.int .u8 0), .d (.int .u8 0), .d (.int .u8 0), .d (.int .u8 0), .d (.int .u8 0), .d (.int .u8 0), .d (.int .u8 0), .d (.int .u8 0), .d (.int .u8 0), .d (.int .u8 0), .d (.int .u8 0), .d (.int .u8 0), .d (.int .u8 0), .d (.int .u8 0), .d (.int .u8 0), .d (.int .u8 0), .d (.int .u8 0), .d (.int .u8 0), .d (.int .u8 0), .d (.int .u8 0), .d (.int .u8 0), .d (.int .u8 0), .d (.int .u8 0), .d (.int .u8 0), .d (.int .u8 0), .d (.int .u8 0), .d (.int .u8 0), .d (.int .u8 0), .d (.int .u8 0), .d (.int .u8 0), .d (.int .u8 0), .d (.int .u8 0), .d (.int .u8 0), .d (.int .u8 0), .d (.int .u8 0), .d (.int .u8 0), .d (.int .u8 0), .d (.int .u8 0), .d (.int .u8 0), .d (.int .u8 0), .d (.int .u8 0), .d (.int .u8 0), .d (.int .u8 0), .d (.int .u8 0), .d (.int .u8 0), .d (.int .u8 0), .d (.int .u8 0), .d (.int .u8 0), .d (.int .u8 0), .d (.int .u8 0), .d (.int .u8 0), .d (.int .u8 0), .d (.int .u8 0), .d (.int .u8 0), .d (.int .u8 0), .d (.int .u8 0), .d (.int .u8 0), .d (.int .u8 0), .d (.int .u8 0), .d (.int .u8 0), .d (.int .u8 0), .d (.int .u8 0), .d (.int .u8 0), .d (.int .u8 0), .d (.int .u8 0), .d (.int .u8 0), .d (.int .u8 0), .d (.int .u8 0), .d (.int .u8 0), .d (.int .u8 0), .d (.int .u8 0), .d (.int .u8 0), .d (.int .u8 0), .d (.int .u8 0), .d (.int .u8 0), .d (.int .u8 0), .d (.int .u8 0), .d (.int .u8 0), .d (.int .u8 0), .d (.int .u8 0), .d (.int .u8 0), .d (.int .u8 0), .d (.int .u8 0), .d (.int .u8 0), .d (.int .u8 0), .d (.int .u8 0), .d (.int .u8 0), .d (.int .u8 0), .d (.int .u8 0), .d (.int .u8 0), .d (.int .u8 0), .d (.int .u8 0), .d (.int .u8 0), .d (.int .u8 0), .d (.int .u8 0), .d (.int .u8 0), .d (.int .u8 0), .d (.int .u8 0), .d (.int .u8 0), .d (.int .u8 0), .d (.int .u8 0), .d (.int .u8 0), .d (.int .u8 0), .d (.int .u8 0), .d (.int .u8 0), .d (.int .u8 0), .d (.int .u8 0), .d (.int .u8 0), .d (.int .u8 0), .d (.int .u8 0), .d (.int .u8 0), .d (.int .u8 0), .d (.int .u8 0), .d (.int .u8 0), .d (.int .u8 0), .d (.int .u8 0), .d (.int .u8 0), .d (.int .u8 0), .d (.int .u8 0), .d (.int .u8 0), .d (.int .u8 0), .d (.int .u8 0), .d (.int .u8 0), .d (.int .u8 0), .d (.int .u8 0), .d (.int .u8 0), .d (.int .u8 0), .d (.int .u8 0), .d (.int .u8 0), .d (.int .u8 0), .d (.int .u8 0), .d (.int .u8 0), .d (.int .u8 0), .d (.int .u8 0), .d (.int .u8 0), .d (.int .u8 0), .d (.int .u8 0), .d (.int .u8 0), .d (.int .u8 0), .d (.int .u8 0), .d (.int .u8 0), .d (.int .u8 0), .d (.int .u8 0), .d (.int .u8 0), .d (.int .u8 0), .d (.int .u8 0), .d (.int .u8 0), .d (.int .u8 0), .d (.int .u8 0), .d (.int .u8 0), .d (.int .u8 0), .d (.int .u8 0), .d (.int .u8 0), .d (.int .u8 0), .d (.int .u8 0), .d (.int .u8 0), .d (.int .u8 0), .d (.int .u8 0), .d (.int .u8 0), .d (.int .u8 0), .d (.int .u8 0), .d (.int .u8 0), .d (.int .u8 0), .d (.int .u8 0), .d (.int .u8 0), .d (.int .u8 0), .d (.int .u8 0), .d (.int .u8 0), .d (.int .u8 0), .d (.int .u8 0), .d (.int .u8 0), .d (.int .u8 0), .d (.int .u8 0), .d (.int .u8 0), .d (.int .u8 0), .d (.int .u8 0), .d (.int .u8 0), .d (.int .u8 0), .d (.int .u8 0), .d (.int .u8 0), .d (.int .u8 0)]), false⟩,
   some ⟨2, 2, .struct [(0, 5), (1, 5)], some (.agg [.d (.int .u8 0), .d (.int .u8 0)]), true⟩,
   some ⟨2, 2, .struct [(0, 5), (1, 5)], some (.agg [.d (.int .u8 0), .d (.int .u8 0)]), true⟩,
   some ⟨32, 32, .arr 16 320, some (.agg [.d (.int .u8 0), .d (.int .u8 0), .d (.int .u8 0), .d (.int .u8 0), .d (.int .u8 0), .d (.int .u8 0), .d (.int .u8 0), .d (.int .u8 0), .d (.int .u8 0), .d (.int .u8 0), .d (.int .u8 0), .d (.int .u8 0), .d (.int .u8 0), .d (.int .u8 0), .d (.int .u8 0), .d (.int .u8 0), .d (.int .u8 0), .d (.int .u8 0), .d (.int .u8 0), .d (.int .u8 0), .d (.int .u8 0), .d (.int .u8 0), .d (.int .u8 0), .d (.int .u8 0), .d (.int .u8 0), .d (.int .u8 0), .d (.int .u8 0), .d (.int .u8 0), .d (.int .u8 0), .d (.int .u8 0), .d (.int .u8 0), .d (.int .u8 0)]), false⟩,
   some ⟨1, 0, .other, none, false⟩,
   some ⟨1, 8, .other, some (.d (.raw .nilFunc)), false⟩,
   some ⟨1, 8, .other, some (.d (.raw .nilFunc)), false⟩,
   some ⟨1, 8, .other, some (.d (.raw .nilFunc)), false⟩,
   some ⟨1, 8, .ptr 328, some (.d (.raw (.pointer none))), false⟩,
   some ⟨1, 16, .struct [(0, 9)], some (.agg [.d (.str [])]), true⟩,
   some ⟨1, 16, .struct [(0, 9)], some (.agg [.d (.str [])]), true⟩,
   some ⟨1, 8, .other, some (.d (.raw .nilFunc)), false⟩,
   some ⟨1, 0, .other, none, false⟩,
   some ⟨1, 8, .other, some (.d (.raw .nilFunc)), false⟩,
   some ⟨1, 8, .other, some (.d (.raw .nilFunc)), false⟩,
   some ⟨1, 24, .slice 4, some (.fsl []), false⟩,
   some ⟨1, 0, .other, none, false⟩,
   some ⟨1, 8, .other, some (.d (.raw .nilFunc)), false⟩,
   some ⟨1, 8, .other, some (.d (.raw .nilFunc)), false⟩,
   some ⟨1, 0, .other, none, false⟩,
   some ⟨1, 8, .other, some (.d (.raw .nilFunc)), false⟩,
   some ⟨1, 8, .ptr 341, some (.d (.raw (.pointer none))), false⟩,
   some ⟨4, 80, .struct [(0, 45), (2, 85), (3, 4)], some (.agg [.fsl [], .fsl [], .fsl [], .d (.bool false)]), false⟩,
   some ⟨4, 80, .struct [(0, 45), (2, 85), (3, 4)], some (.agg [.fsl [], .fsl [], .fsl [], .d (.bool false)]), false⟩,
   some ⟨1, 8, .other, some (.d (.raw .nilFunc)), false⟩,
   some ⟨1, 8, .other, some (.d (.raw .nilFunc)), false⟩,
   some ⟨1, 8, .other, some (.d (.raw .nilFunc)), false⟩,
   some ⟨1, 8, .other, some (.d (.raw .nilFunc)), false⟩,
   some ⟨2, 16, .arr 2 3, some (.agg [.d (.int .i64 0), .d (.int .i64 0)]), false⟩,
   some ⟨1, 8, .other, some (.d (.raw .nilFunc)), false⟩,
   some ⟨1, 8, .other, some (.d (.raw .nilFunc)), false⟩,
   some ⟨1, 8, .other, some (.d (.raw .nilFunc)), false⟩,
   some ⟨1, 8, .other, some (.d (.raw .nilFunc)), false⟩,
   some ⟨1, 8, .other, some (.d (.raw .nilFunc)), false⟩,
   some ⟨1, 8, .other, some (.d (.raw .nilFunc)), false⟩,
   some ⟨1, 8, .other, some (.d (.raw .nilFunc)), false⟩,
   some ⟨1, 8, .other, some (.d (.raw .nilFunc)), false⟩,
   some ⟨1, 8, .ptr 359, some (.d (.raw (.pointer none))), false⟩,
   some ⟨1, 8, .other, some (.d (.raw .nilFunc)), false⟩,
   some ⟨1, 8, .other, some (.d (.raw .nilFunc)), false⟩,
   some ⟨5, 88, .struct [(0, 45), (2, 70), (3, 22), (4, 3)], some (.agg [.fsl [], .fsl [], .fsl [], .d (.int .i64 0), .d (.int .i64 0)]), false⟩,
   some ⟨5, 88, .struct [(0, 45), (2, 70), (3, 22), (4, 3)], some (.agg [.fsl [], .fsl [], .fsl [], .d (.int .i64 0), .d (.int .i64 0)]), false⟩,
   some ⟨32, 32, .arr 32 5, some (.agg [.d (.int .u8 0), .d (.int .u8 0), .d (.int .u8 0), .d (.int .u8 0), .d (.int .u8 0), .d (.int .u8 0), .d (.int .u8 0), .d (.int .u8 0), .d (.int .u8 0), .d (.int .u8 0), .d (.int .u8 0), .d (.int .u8 0), .d (.int .u8 0), .d (.int .u8 0), .d (.int .u8 0), .d (.int .u8 0), .d (.int .u8 0), .d (.int .u8 0), .d (.int .u8 0), .d (.int .u8 0), .d (.int .u8 0), .d (.int .u8 0), .d (.int .u8 0), .d (.int .u8 0), .d (.int .u8 0), .d (.int .u8 0), .d (.int .u8 0), .d (.int .u8 0), .d (.int .u8 0), .d (.int .u8 0), .d (.int .u8 0), .d (.int .u8 0)]), false⟩,
   some ⟨64, 64, .arr 64 5, some (.agg [.d (.int .u8 0), .d (.int .u8 0), .d (.int .u8 0), .d (.int .u8 0), .d (.int .u8 0), .d (.int .u8 0), .d (.int .u8 0), .d (.int .u8 0), .d (.int .u8 0), .d (.int .u8 0), .d (.int .u8 0), .d (.int .u8 0), .d (.int .u8 0), .d (.int .u8 0), .d (.int .u8 0), .d (.int .u8 0), .d (.int .u8 0), .d (.int .u8 0), .d (.int .u8 0), .d (.int .u8 0), .d (.int .u8 0), .d (.int .u8 0), .d (.int .u8 0), .d (.int .u8 0), .d (.int .u8 0), .d (.int .u8 0), .d (.int .u8 0), .d (.int .u8 0), .d (.int .u8 0), .d (.int .u8 0), .d (.int .u8 0), .d (.int .u8 0), .d (.int .u8 0), .d (.int .u8 0), .d (.int .u8 0), .d (.int .u8 0), .d (.int .u8 0), .d (.int .u8 0), .d (.int .u8 0), .d (.int .u8 0), .d (.int .u8 0), .d (.int .u8 0), .d (.int .u8 0), .d (.int .u8 0), .d (.int .u8 0), .d (.int .u8 0), .d (.int .u8 0), .d (.int .u8 0), .d (.int .u8 0), .d (.int .u8 0), .d (.int .u8 0), .d (.int .u8 0), .d (.int .u8 0), .d (.int .u8 0), .d (.int .u8 0), .d (.int .u8 0), .d (.int .u8 0), .d (.int .u8 0), .d (.int .u8 0), .d (.int .u8 0), .d (.int .u8 0), .d (.int .u8 0), .d (.int .u8 0), .d (.int .u8 0)]), false⟩,
   some ⟨1, 8, .other, some (.d (.raw .nilFunc)), false⟩,
   some ⟨1, 8, .other, some (.d (.raw .nilFunc)), false⟩,
   some ⟨1, 8, .other, some (.d (.raw .nilFunc)), false⟩,
   some ⟨2, 16, .struct [(0, 3), (1, 3)], some (.agg [.d (.int .i64 0), .d (.int .i64 0)]), true⟩,
   some ⟨2, 16, .struct [(0, 3), (1, 3)], some (.agg [.d (.int .i64 0), .d (.int .i64 0)]), true⟩,
   some ⟨1, 8, .other, some (.d (.raw .nilFunc)), false⟩,
   some ⟨1, 8, .other, some (.d (.raw .nilFunc)), false⟩,
   some ⟨1, 8, .other, some (.d (.raw .nilFunc)), false⟩,
   some ⟨1, 8, .other, some (.d (.raw .nilFunc)), false⟩,
   some ⟨1, 8, .other, some (.d (.raw .nilFunc)), false⟩,
   some ⟨1, 8, .other, some (.d (.raw .nilFunc)), false⟩,
   some ⟨1, 8, .other, some (.d (.raw .nilFunc)), false⟩,
   some ⟨1, 8, .other, some (.d (.raw .nilFunc)), false⟩,
   some ⟨18, 144, .arr 18 3, some (.agg [.d (.int .i64 0), .d (.int .i64 0), .d (.int .i64 0), .d (.int .i64 0), .d (.int .i64 0), .d (.int .i64 0), .d (.int .i64 0), .d (.int .i64 0), .d (.int .i64 0), .d (.int .i64 0), .d (.int .i64 0), .d (.int .i64 0), .d (.int .i64 0), .d (.int .i64 0), .d (.int .i64 0), .d (.int .i64 0), .d (.int .i64 0), .d (.int .i64 0)]), false⟩,
   some ⟨1, 8, .int .i64, some (.d (.int .i64 0)), false⟩,
   some ⟨1, 8, .other, some (.d (.raw .nilFunc)), false⟩,
   some ⟨1, 8, .other, some (.d (.raw .nilFunc)), false⟩,
   some ⟨36, 288, .arr 18 366, some (.agg [.d (.int .i64 0), .d (.int .i64 0), .d (.int .i64 0), .d (.int .i64 0), .d (.int .i64 0), .d (.int .i64 0), .d (.int .i64 0), .d (.int .i64 0), .d (.int .i64 0), .d (.int .i64 0), .d (.int .i64 0), .d (.int .i64 0), .d (.int .i64 0), .d (.int .i64 0), .d (.int .i64 0), .d (.int .i64 0), .d (.int .i64 0), .d (.int .i64 0), .d (.int .i64 0), .d (.int .i64 0), .d (.int .i64 0), .d (.int .i64 0), .d (.int .i64 0), .d (.int .i64 0), .d (.int .i64 0), .d (.int .i64 0), .d (.int .i64 0), .d (.int .i64 0), .d (.int .i64 0), .d (.int .i64 0), .d (.int .i64 0), .d (.int .i64 0), .d (.int .i64 0), .d (.int .i64 0), .d (.int .i64 0), .d (.int .i64 0)]), false⟩,
   some ⟨1, 8, .other, some (.d (.raw .nilFunc)), false⟩,
   some ⟨1, 8, .other, some (.d (.raw .nilFunc)), false⟩,
   some ⟨1, 0, .other, none, false⟩,
   some ⟨1, 8, .other, some (.d (.raw .nilFunc)), false⟩,
   some ⟨1, 8, .other, some (.d (.raw .nilFunc)), false⟩,
   some ⟨4, 40, .struct [(0, 17), (1, 17), (2, 17), (3, 9)], some (.agg [.d (.raw (.pointer none)), .d (.raw (.pointer none)), .d (.raw (.pointer none)), .d (.str [])]), false⟩,
   some ⟨4, 40, .struct [(0, 17), (1, 17), (2, 17), (3, 9)], some (.agg [.d (.raw (.pointer none)), .d (.raw (.pointer none)), .d (.raw (.pointer none)), .d (.str [])]), false⟩,
   some ⟨0, 0, .arr 0 16, some (.agg []), false⟩,
   some ⟨0, 0, .struct [(0, 387)], some (.agg []), false⟩,
   some ⟨0, 0, .struct [(0, 387)], some (.agg []), false⟩,
   some ⟨1, 1, .int .u8, some (.d (.int .u8 0)), false⟩,
   some ⟨1, 1, .int .u8, some (.d (.int .u8 0)), false⟩,
   some ⟨1, 8, .other, some (.d (.raw .nilFunc)), false⟩,
   some ⟨1, 4, .int .i32, some (.d (.int .i32 0)), false⟩,
   some ⟨1, 4, .int .i32, some (.d (.int .i32 0)), false⟩,
   some ⟨11, 48, .struct [(0, 12), (1, 12), (2, 315), (3, 390), (4, 5), (5, 5), (6, 391), (7, 392), (8, 226), (9, 393), (10, 394)], some (.agg [.d (.int .u64 0), .d (.int .u64 0), .d (.int .u32 0), .d (.int .u8 0), .d (.int .u8 0), .d (.int .u8 0), .d (.int .u8 0), .d (.raw .nilFunc), .d (.raw (.pointer none)), .d (.int .i32 0), .d (.int .i32 0)]), false⟩,
   some ⟨11, 48, .struct [(0, 12), (1, 12), (2, 315), (3, 390), (4, 5), (5, 5), (6, 391), (7, 392), (8, 226), (9, 393), (10, 394)], some (.agg [.d (.int .u64 0), .d (.int .u64 0), .d (.int .u32 0), .d (.int .u8 0), .d (.int .u8 0), .d (.int .u8 0), .d (.int .u8 0), .d (.raw .nilFunc), .d (.raw (.pointer none)), .d (.int .i32 0), .d (.int .i32 0)]), false⟩]
def tt : TT := fun t => tab.getD t none
theorem tab_eq : (List.range Tryz.prog.types.size).map (mkTE Tryz.prog) = tab := by kernel_rfl
theorem tt_ok : TTok Tryz.prog tt := by
  intro t e h
  unfold tt at h
  rw [← tab_eq, List.getD_eq_getElem?_getD, List.getElem?_map] at h
  cases hr : (List.range Tryz.prog.types.size)[t]? with
  | none => rw [hr] at h; cases h
  | some k =>
    rw [hr] at h
    obtain ⟨h1, h2⟩ := List.getElem?_eq_some_iff.1 hr
    rw [List.getElem_range] at h2
    subst h2
    exact h
theorem pok : POk Tryz.prog tt := ⟨tt_ok, by kernel_rfl⟩
end Go.Proofs.YtblnfodnkacbbaaGreatDoor.Q

set_option linter.unusedSectionVars false
set_option linter.unnecessarySimpa false
set_option linter.unusedSimpArgs false
namespace Go.Proofs.YtblnfodnkacbbaaGreatDoor.Q
open Go.RowKit
/-- A number of 64 bits. -/
def R64 (n : Int) : Prop := -9223372036854775808 ≤ n ∧ n ≤ 9223372036854775807
theorem R64.wf {n : Int} (h : R64 n) : (Lit.int .i64 n).wf = true := by
  unfold R64 at h
  simp [Lit.wf, IntKind.min, IntKind.max, IntKind.bits, IntKind.signed]
  omega
theorem R64.of {n : Int} (h : (Lit.int .i64 n).wf = true) : R64 n := by
  unfold R64
  simp [Lit.wf, IntKind.min, IntKind.max, IntKind.bits, IntKind.signed] at h
  omega
def fit (n : Int) : Bool := decide (-9223372036854775808 ≤ n ∧ n ≤ 9223372036854775807)
theorem fit_iff {n : Int} : fit n = true ↔ R64 n := by unfold fit R64; exact decide_eq_true_iff
theorem fit_not {n : Int} : fit n = false ↔ ¬ R64 n := by unfold fit R64; exact decide_eq_false_iff_not
/-- A number and whether it is there. -/
def told (n : Int) : Int × Bool := if fit n then (n, true) else (0, false)
def addS (a b : Int) : Int × Bool := told (a + b)
def subS (a b : Int) : Int × Bool := told (a - b)
def mulS (a b : Int) : Int × Bool := told (a * b)
def negS (a : Int) : Int × Bool := told (-a)
def divS (a b : Int) : Int := if b ≤ 0 then 0 else a / b
def gcdL (l : List Int) : Int := if l.all (fun n => decide (n ≠ -9223372036854775808)) then (l.foldl (fun g n => Nat.gcd g n.natAbs) 0 : Nat) else 0
theorem told_yes {n : Int} (h : R64 n) : told n = (n, true) := by unfold told; rw [if_pos (fit_iff.2 h)]
theorem told_no {n : Int} (h : ¬ R64 n) : told n = (0, false) := by unfold told; rw [if_neg (by rw [fit_iff]; exact h)]
theorem told_r (n : Int) : R64 (told n).1 := by
  unfold told; split
  · exact fit_iff.1 ‹_›
  · unfold R64; omega
theorem told_true {n : Int} (h : (told n).2 = true) : R64 n ∧ (told n).1 = n := by
  unfold told at h ⊢; split at h
  · rw [if_pos ‹_›]; exact ⟨fit_iff.1 ‹_›, rfl⟩
  · cases h
theorem wrap_fit {n : Int} (h : R64 n) : wrap64 n = n := by unfold R64 at h; unfold wrap64; omega
theorem wrap_r (n : Int) : R64 (wrap64 n) := by unfold R64 wrap64; omega
theorem wrap_not {n : Int} (h : ¬ R64 n) : wrap64 n ≠ n := fun e => h (e ▸ wrap_r n)

theorem wrap_i64_toNat (v : BitVec 64) : IntKind.i64.wrap (v.toNat : Int) = v.toInt := by
  rw [IntKind.wrap_i64, BitVec.toInt_eq_toNat_cond]
  have := v.isLt
  split <;> omega
theorem ofInt_toInt {x : Int} (h : R64 x) : (BitVec.ofInt 64 x).toInt = x := by
  unfold R64 at h
  rw [BitVec.toInt_ofInt]
  simp only [Int.bmod]
  split <;> omega
theorem bits_and_neg {x y : Int} (hx : R64 x) (hy : R64 y) : bits .and .i64 x y < 0 ↔ x < 0 ∧ y < 0 := by
  have e : bits .and .i64 x y = (BitVec.ofInt 64 x &&& BitVec.ofInt 64 y).toInt := wrap_i64_toNat _
  have m := @BitVec.msb_eq_toInt 64 (BitVec.ofInt 64 x &&& BitVec.ofInt 64 y)
  rw [BitVec.msb_and, BitVec.msb_eq_toInt, BitVec.msb_eq_toInt, ofInt_toInt hx, ofInt_toInt hy] at m
  rw [e, ← decide_eq_true_iff (p := _ < 0), ← m]
  simp
theorem bits_xor_neg {x y : Int} (hx : R64 x) (hy : R64 y) : bits .xor .i64 x y < 0 ↔ ¬ (x < 0 ↔ y < 0) := by
  have e : bits .xor .i64 x y = (BitVec.ofInt 64 x ^^^ BitVec.ofInt 64 y).toInt := wrap_i64_toNat _
  have m := @BitVec.msb_eq_toInt 64 (BitVec.ofInt 64 x ^^^ BitVec.ofInt 64 y)
  rw [BitVec.msb_xor, BitVec.msb_eq_toInt, BitVec.msb_eq_toInt, ofInt_toInt hx, ofInt_toInt hy] at m
  rw [e, ← decide_eq_true_iff (p := _ < 0), ← m]
  by_cases h1 : x < 0 <;> by_cases h2 : y < 0 <;> simp [h1, h2]
theorem bits_xor_r (x y : Int) : R64 (bits .xor .i64 x y) := by
  have e : bits .xor .i64 x y = (BitVec.ofInt 64 x ^^^ BitVec.ofInt 64 y).toInt := wrap_i64_toNat _
  rw [e]
  have h1 := BitVec.le_toInt (BitVec.ofInt 64 x ^^^ BitVec.ofInt 64 y)
  have h2 := BitVec.toInt_lt (x := BitVec.ofInt 64 x ^^^ BitVec.ofInt 64 y)
  unfold R64
  omega
theorem add_over {a b : Int} (ha : R64 a) (hb : R64 b) : bits .and .i64 (bits .xor .i64 a (wrap64 (a + b))) (bits .xor .i64 b (wrap64 (a + b))) < 0 ↔ ¬ R64 (a + b) := by
  rw [bits_and_neg (bits_xor_r _ _) (bits_xor_r _ _), bits_xor_neg ha (wrap_r _), bits_xor_neg hb (wrap_r _)]
  unfold R64 wrap64 at *
  omega
theorem sub_over {a b : Int} (ha : R64 a) (hb : R64 b) : bits .and .i64 (bits .xor .i64 a b) (bits .xor .i64 a (wrap64 (a - b))) < 0 ↔ ¬ R64 (a - b) := by
  rw [bits_and_neg (bits_xor_r _ _) (bits_xor_r _ _), bits_xor_neg ha hb, bits_xor_neg ha (wrap_r _)]
  unfold R64 wrap64 at *
  omega
/-- A number of 64 bits without a sign. -/
def U64 (n : Int) : Prop := 0 ≤ n ∧ n ≤ 18446744073709551615
theorem wrap_u (n : Int) : IntKind.u64.wrap n = n % 18446744073709551616 := IntKind.wrap_u64 n
theorem abs_u {a : Int} (ha : R64 a) : U64 (a.natAbs : Int) ∧ (a.natAbs : Int) ≤ 9223372036854775808 := by unfold R64 at ha; unfold U64; omega
theorem size_neg {a : Int} (ha : R64 a) (h : a < 0) : IntKind.u64.wrap (-IntKind.u64.wrap a) = a.natAbs := by rw [wrap_u, wrap_u]; unfold R64 at ha; omega
theorem size_pos {a : Int} (ha : R64 a) (h : ¬ a < 0) : IntKind.u64.wrap a = a.natAbs := by rw [wrap_u]; unfold R64 at ha; omega
theorem mul_hi (x y : Int) (hx : U64 x) (hy : U64 y) :
    (((x / 4294967296 * (y / 4294967296)) % 18446744073709551616 +
      (((x / 4294967296 * (y % 4294967296)) % 18446744073709551616 + ((x % 4294967296 * (y % 4294967296)) % 18446744073709551616) / 4294967296) % 18446744073709551616) / 4294967296) % 18446744073709551616 +
      (((((x / 4294967296 * (y % 4294967296)) % 18446744073709551616 + ((x % 4294967296 * (y % 4294967296)) % 18446744073709551616) / 4294967296) % 18446744073709551616) % 4294967296 +
        (x % 4294967296 * (y / 4294967296)) % 18446744073709551616) % 18446744073709551616) / 4294967296) % 18446744073709551616 = x * y / 18446744073709551616 := by
  unfold U64 at hx hy
  exact mul64_arith x y (by omega) (by omega) (by omega) (by omega)
theorem abs_mul (a b : Int) : ((a.natAbs : Int) * (b.natAbs : Int)) = ((a * b).natAbs : Int) := by rw [Int.natAbs_mul]; simp
/-- The product, told by its size and its sign. -/
theorem mul_parts {a b : Int} (ha : R64 a) (hb : R64 b) (neg : Bool) (hn : neg = ((decide (a < 0)) != (decide (b < 0)))) :
    ∃ m : Nat, ((a.natAbs : Int) * (b.natAbs : Int)) = (m : Int) ∧ (a * b = (m : Int) ∨ a * b = -(m : Int)) ∧ (neg = true → a * b = -(m : Int)) ∧ (neg = false → a * b = (m : Int)) := by
  refine ⟨a.natAbs * b.natAbs, by simp, ?_, ?_, ?_⟩
  · rcases Int.natAbs_eq (a * b) with h | h
    · left; rw [h, Int.natAbs_mul]
    · right; rw [h, Int.natAbs_mul]
  · intro h
    rw [hn] at h
    rcases Int.lt_or_le a 0 with h1 | h1 <;> rcases Int.lt_or_le b 0 with h2 | h2
    · simp [h1, h2] at h
    · obtain ⟨p, rfl⟩ : ∃ p : Nat, a = -(p : Int) := ⟨a.natAbs, by omega⟩
      obtain ⟨q, rfl⟩ := Int.eq_ofNat_of_zero_le h2
      simp [Int.neg_mul]
    · obtain ⟨p, rfl⟩ := Int.eq_ofNat_of_zero_le h1
      obtain ⟨q, rfl⟩ : ∃ q : Nat, b = -(q : Int) := ⟨b.natAbs, by omega⟩
      simp [Int.mul_neg]
    · simp [Int.not_lt.2 h1, Int.not_lt.2 h2] at h
  · intro h
    rw [hn] at h
    rcases Int.lt_or_le a 0 with h1 | h1 <;> rcases Int.lt_or_le b 0 with h2 | h2
    · obtain ⟨p, rfl⟩ : ∃ p : Nat, a = -(p : Int) := ⟨a.natAbs, by omega⟩
      obtain ⟨q, rfl⟩ : ∃ q : Nat, b = -(q : Int) := ⟨b.natAbs, by omega⟩
      rw [Int.neg_mul_neg]; simp
    · simp [h1, Int.not_lt.2 h2] at h
    · simp [h2, Int.not_lt.2 h1] at h
    · obtain ⟨p, rfl⟩ := Int.eq_ofNat_of_zero_le h1
      obtain ⟨q, rfl⟩ := Int.eq_ofNat_of_zero_le h2
      simp
theorem ediv_of {a b k : Int} (hb : 0 < b) (h1 : k * b ≤ a) (h2 : a < (k + 1) * b) : a / b = k := by
  have h3 := (Int.le_ediv_iff_mul_le hb).2 h1
  have h4 := (Int.ediv_lt_iff_lt_mul hb).2 h2
  omega
/-- Go's quotient, brought down. -/
theorem div_down {a b : Int} (ha : R64 a) (hb : 0 < b) : R64 (a.tdiv b) ∧ R64 (a.tdiv b * b) ∧ (a < 0 → a.tdiv b * b ≠ a → a / b = a.tdiv b - 1) ∧ ((¬ a < 0 ∨ a.tdiv b * b = a) → a / b = a.tdiv b) ∧ R64 (a / b) := by
  rcases Int.lt_or_le a 0 with h | h
  · obtain ⟨p, rfl⟩ : ∃ p : Nat, a = -(p : Int) := ⟨a.natAbs, by omega⟩
    have e : (-(p : Int)).tdiv b = -((p : Int) / b) := by rw [Int.neg_tdiv, Int.tdiv_eq_ediv_of_nonneg (by omega)]
    rw [e]
    have hq0 : 0 ≤ (p : Int) / b := Int.ediv_nonneg (by omega) (by omega)
    have hq1 : (p : Int) / b * b ≤ p := Int.ediv_mul_le _ (by omega)
    have hq2 : (p : Int) < ((p : Int) / b + 1) * b := Int.lt_ediv_add_one_mul_self _ hb
    have hq3 : (p : Int) / b ≤ p := Int.ediv_le_self _ (by omega)
    generalize (p : Int) / b = q at *
    have e2 : -q * b = -(q * b) := Int.neg_mul _ _
    have e3 : (q + 1) * b = q * b + b := by rw [Int.add_mul, Int.one_mul]
    have k0 : 0 ≤ q * b := Int.mul_nonneg hq0 (by omega)
    have c1 : -q * b ≠ -(p : Int) → -(p : Int) / b = -q - 1 := by
      intro hne
      refine ediv_of hb ?_ ?_
      · have : (-q - 1) * b = -(q * b) - b := by rw [Int.sub_mul, Int.neg_mul, Int.one_mul]
        omega
      · have : (-q - 1 + 1) * b = -(q * b) := by rw [Int.sub_add_cancel, Int.neg_mul]
        omega
    have c2 : -q * b = -(p : Int) → -(p : Int) / b = -q := by
      intro he
      refine ediv_of hb (by omega) ?_
      have : (-q + 1) * b = -(q * b) + b := by rw [Int.add_mul, Int.neg_mul, Int.one_mul]
      omega
    unfold R64 at *
    refine ⟨by omega, by omega, fun _ => c1, fun h => c2 (by rcases h with h | h; omega; exact h), ?_⟩
    by_cases hh : -q * b = -(p : Int)
    · rw [c2 hh]; omega
    · rw [c1 hh]
      by_cases hq : q = p
      · subst hq
        exfalso
        by_cases hb1 : b = 1
        · subst hb1; omega
        · have := Int.mul_le_mul_of_nonneg_left (show 2 ≤ b by omega) (show 0 ≤ (p : Int) by omega)
          have hp : (p : Int) = 0 := by omega
          omega
      · omega
  · rw [Int.tdiv_eq_ediv_of_nonneg h]
    have hq0 : 0 ≤ a / b := Int.ediv_nonneg h (by omega)
    have hq1 : a / b * b ≤ a := Int.ediv_mul_le _ (by omega)
    have hq3 : a / b ≤ a := Int.ediv_le_self _ h
    have k0 : 0 ≤ a / b * b := Int.mul_nonneg hq0 (by omega)
    generalize a / b * b = m at *
    unfold R64 at *
    refine ⟨by omega, by omega, fun h => by omega, fun _ => rfl, by omega⟩
theorem low_b {z : Int} (h0 : 0 ≤ z) (h1 : z < 18446744073709551616) : bits .and .u64 z 4294967295 = z % 4294967296 := and_low32 z h0 h1
theorem mul_yes {a b : Int} {m : Nat} (hm : (a.natAbs : Int) * (b.natAbs : Int) = m) (ha : R64 a) (hb : R64 b) :
    (m : Int) / 18446744073709551616 = 0 ↔ (m : Int) ≤ 18446744073709551615 := by omega
theorem tmod_neg {a b : Int} (hb : 0 < b) : a.tmod b < 0 ↔ a < 0 ∧ a.tdiv b * b ≠ a := by
  have h1 := Int.tmod_add_tdiv_mul a b
  have h2 : a < 0 → a.tmod b ≤ 0 := fun h => by
    have := Int.tmod_nonneg (a := -a) b (by omega)
    rw [Int.neg_tmod] at this
    omega
  have h3 : 0 ≤ a → 0 ≤ a.tmod b := fun h => Int.tmod_nonneg _ h
  omega
theorem mul_split {u v : Int} (hu : 0 ≤ u ∧ u ≤ 9223372036854775808) (hv : 0 ≤ v ∧ v ≤ 9223372036854775808) :
    ∃ uh ul vh vl p p' q r : Int, u / 4294967296 = uh ∧ u % 4294967296 = ul ∧ v / 4294967296 = vh ∧ v % 4294967296 = vl ∧ uh * vl = p ∧ vh * ul = p' ∧ ul * vl = q ∧ u * v = r * 18446744073709551616 + (p + p') * 4294967296 + q ∧
      0 ≤ p ∧ p ≤ 9223372036854775808 ∧ 0 ≤ p' ∧ p' ≤ 9223372036854775808 ∧ 0 ≤ q ∧ q < 18446744073709551616 ∧ (uh = 0 → r = 0 ∧ p = 0) ∧ (vh = 0 → r = 0 ∧ p' = 0) ∧ (¬ uh = 0 → ¬ vh = 0 → 1 ≤ r) := by
  refine ⟨u / 4294967296, u % 4294967296, v / 4294967296, v % 4294967296, _, _, _, (u / 4294967296) * (v / 4294967296), rfl, rfl, rfl, rfl, rfl, rfl, rfl, ?_, ?_⟩
  · have e1 : u = u / 4294967296 * 4294967296 + u % 4294967296 := by omega
    have e2 : v = v / 4294967296 * 4294967296 + v % 4294967296 := by omega
    generalize u / 4294967296 = a at *
    generalize u % 4294967296 = b at *
    generalize v / 4294967296 = c at *
    generalize v % 4294967296 = d at *
    subst e1; subst e2
    rw [Int.add_mul, Int.mul_add, Int.mul_add]
    have f1 : a * 4294967296 * (c * 4294967296) = a * c * 18446744073709551616 := by rw [Int.mul_assoc, Int.mul_left_comm 4294967296 c, ← Int.mul_assoc]; rfl
    have f2 : a * 4294967296 * d = a * d * 4294967296 := by rw [Int.mul_assoc, Int.mul_comm 4294967296 d, ← Int.mul_assoc]
    have f3 : b * (c * 4294967296) = c * b * 4294967296 := by rw [← Int.mul_assoc, Int.mul_comm b c]
    rw [f1, f2, f3]; omega
  · have a0 : 0 ≤ u / 4294967296 ∧ u / 4294967296 ≤ 2147483648 := by omega
    have b0 : 0 ≤ u % 4294967296 ∧ u % 4294967296 ≤ 4294967295 := by omega
    have c0 : 0 ≤ v / 4294967296 ∧ v / 4294967296 ≤ 2147483648 := by omega
    have d0 : 0 ≤ v % 4294967296 ∧ v % 4294967296 ≤ 4294967295 := by omega
    generalize u / 4294967296 = a at *
    generalize u % 4294967296 = b at *
    generalize v / 4294967296 = c at *
    generalize v % 4294967296 = d at *
    have g1 := Int.mul_le_mul a0.2 d0.2 d0.1 (by omega)
    have g2 := Int.mul_le_mul c0.2 b0.2 b0.1 (by omega)
    have g3 := Int.mul_le_mul b0.2 d0.2 d0.1 (by omega)
    have h1 := Int.mul_nonneg a0.1 d0.1
    have h2 := Int.mul_nonneg c0.1 b0.1
    have h3 := Int.mul_nonneg b0.1 d0.1
    refine ⟨h1, by omega, h2, by omega, h3, by omega, ?_, ?_, ?_⟩
    · rintro rfl; simp
    · rintro rfl; simp
    · intro n1 n2
      have := Int.mul_le_mul (show (1 : Int) ≤ a by omega) (show (1 : Int) ≤ c by omega) (by omega) a0.1
      omega
def notMin (n : Int) : Bool := decide (n ≠ -9223372036854775808)
def gcdF (l : List Int) : Nat := l.foldl (fun g n => Nat.gcd g n.natAbs) 0
theorem gcdL_yes {l : List Int} (h : l.all notMin = true) : gcdL l = (gcdF l : Nat) := by unfold gcdL; exact if_pos h
theorem gcdL_no {l : List Int} {k : Nat} (hk : k < l.length) (h : l[k] = -9223372036854775808) : gcdL l = 0 := by
  unfold gcdL
  refine if_neg fun ha => ?_
  have := List.all_eq_true.1 ha l[k] (List.getElem_mem hk)
  simp [h] at this
theorem gcd_fold_le (l : List Int) (h : l.all notMin = true) (hr : ∀ n ∈ l, R64 n) : ∀ g : Nat, (g : Int) ≤ 9223372036854775807 → ((l.foldl (fun g n => Nat.gcd g n.natAbs) g : Nat) : Int) ≤ 9223372036854775807 := by
  induction l with
  | nil => exact fun g hg => hg
  | cons n l ih =>
    intro g hg
    simp only [List.all_cons, Bool.and_eq_true] at h
    refine ih h.2 (fun m hm => hr m (List.mem_cons_of_mem _ hm)) _ ?_
    have h1 := hr n List.mem_cons_self
    have h2 : n ≠ -9223372036854775808 := by simpa [notMin] using h.1
    unfold R64 at h1
    show ((Nat.gcd g n.natAbs : Nat) : Int) ≤ _
    rcases Nat.eq_zero_or_pos n.natAbs with h0 | h0
    · rw [h0, Nat.gcd_zero_right]; exact hg
    · have := Nat.gcd_le_right g h0
      omega
theorem take_snoc {α : Type} (l : List α) (k : Nat) (h : k < l.length) : l.take (k + 1) = l.take k ++ [l[k]] := List.take_succ_eq_append_getElem h
theorem gcdF_snoc (l : List Int) (k : Nat) (h : k < l.length) : gcdF (l.take (k + 1)) = Nat.gcd (gcdF (l.take k)) l[k].natAbs := by
  rw [take_snoc l k h]; unfold gcdF; rw [List.foldl_append]; rfl
theorem all_take {α : Type} {l : List α} {p : α → Bool} (h : l.all p = true) (k : Nat) : (l.take k).all p = true := by
  rw [List.all_eq_true] at *; exact fun x hx => h x (List.mem_of_mem_take hx)
theorem gcdF_r (l : List Int) (h : l.all notMin = true) (hr : ∀ n ∈ l, R64 n) (k : Nat) : R64 (gcdF (l.take k) : Nat) := by
  have := gcd_fold_le (l.take k) (all_take h k) (fun n hn => hr n (List.mem_of_mem_take hn)) 0 (by omega)
  unfold R64 gcdF
  omega
end Go.Proofs.YtblnfodnkacbbaaGreatDoor.Q

namespace Go.Proofs.YtblnfodnkacbbaaGreatDoor.Q
open Go.RowKit
variable [Amb]
theorem PIdx.map' {α β : Type} {l : List α} {f : α → β} {z : Int} {i : Nat} {x : α} {K : β → Prop} (hz : z = i) (h : l[i]? = some x) (k : K (f x)) : PIdx (l.map f) z K := by subst hz; exact PIdx.map h k
theorem PIdx.at' {α : Type} {l : List α} {z : Int} {i : Nat} {x : α} {K : α → Prop} (hz : z = i) (h : l[i]? = some x) (k : K x) : PIdx l z K := by subst hz; exact PIdx.at h k
theorem wrap_nat (k : Nat) (h : k < 4611686018427387904) : IntKind.i64.wrap ((k : Int) + 1) = ((k + 1 : Nat) : Int) := by
  rw [IntKind.wrap_i64]; omega
theorem wrap_in {x : Int} (h : R64 x) : IntKind.i64.wrap x = x := by unfold R64 at h; rw [IntKind.wrap_i64]; omega
theorem get_at {α : Type} {l : List α} {k : Nat} (h : k < l.length) : l[k]? = some l[k] := List.getElem?_eq_getElem h
/-- The function's one result; nothing lent. -/
theorem fin1 {r r' : V} (h : r = r') : r = r' ∧ ([] : List Ob) = [] := ⟨h, rfl⟩
theorem dint {k : IntKind} {a b : Int} (h : a = b) : V.d (.int k a) = V.d (.int k b) := by rw [h]
theorem sint {k : IntKind} {a b : Int} (h : a = b) : some (V.d (.int k a)) = some (V.d (.int k b)) := by rw [h]
theorem sv {x y : V} (h : x = y) : some x = some y := by rw [h]
theorem dbool {a b : Bool} (h : a = b) : V.d (.bool a) = V.d (.bool b) := by rw [h]
theorem tup2 {a b c d : V} (h : a = c) (k : b = d) : V.tup [a, b] = V.tup [c, d] := by rw [h, k]
theorem tup3 {a b c d e f : V} (h : a = d) (k : b = e) (l : c = f) : V.tup [a, b, c] = V.tup [d, e, f] := by rw [h, k, l]
theorem lk_some {ρ : Env} {t : Nat} {x y : V} (h : lk ρ t = some x) (e : x = y) : lk ρ t = some y := by rw [h, e]
/-- A number and whether it is there. -/
def ib (p : Int × Bool) : V := .tup [.d (.int .i64 p.1), .d (.bool p.2)]
theorem ib_yes {n : Int} (h : R64 n) : ib (told n) = .tup [.d (.int .i64 n), .d (.bool true)] := by rw [told_yes h]; rfl
theorem ib_no {n : Int} (h : ¬ R64 n) : ib (told n) = .tup [.d (.int .i64 0), .d (.bool false)] := by rw [told_no h]; rfl
/-- A number. -/
abbrev iv (n : Int) : V := .d (.int .i64 n)
end Go.Proofs.YtblnfodnkacbbaaGreatDoor.Q

namespace Go.Proofs.YtblnfodnkacbbaaGreatDoor.Q
open Go.RowKit
abbrev Str := List UInt8
abbrev sv' (s : Str) : V := .d (.str s)
structure Ex where
  op : Int
  mon : Str
  name : Str
  n : Int
  kids : List Ex
  pl : Int
structure St where
  kind : Int
  mon : Str
  name : Str
  n : Int
  e : Ex
  blocks : List (List St)
  pl : Int
structure Vr where
  name : Str
  type : Int
  lo : Int
  hi : Int
  init : Int
  pl : Int
structure Mt where
  name : Str
  body : List St
  pl : Int
structure Mo where
  name : Str
  vars : List Vr
  methods : List Mt
  pl : Int
structure Ro where
  name : Str
  star : Bool
  count : Int
  body : List St
  pl : Int
structure Pg where
  mons : List Mo
  roles : List Ro
mutual
def Ex.e : Ex → List D
  | ⟨op, mon, name, n, kids, pl⟩ => [.int .i64 op, .str mon, .str name, .int .i64 n, .sl (Ex.es kids), .int .i64 pl]
def Ex.es : List Ex → List (List D)
  | [] => []
  | x :: r => x.e :: Ex.es r
end
theorem Ex.es_map : ∀ l : List Ex, Ex.es l = l.map Ex.e
  | [] => by simp [Ex.es]
  | x :: r => by rw [Ex.es, Ex.es_map r]; rfl
theorem Ex.e_eq (x : Ex) : x.e = [.int .i64 x.op, .str x.mon, .str x.name, .int .i64 x.n, .sl (x.kids.map Ex.e), .int .i64 x.pl] := by
  cases x; rw [Ex.e, Ex.es_map]
mutual
def St.c : St → List D
  | ⟨kind, mon, name, n, e, blocks, pl⟩ => [.int .i64 kind, .str mon, .str name, .int .i64 n] ++ e.e ++ [.sl (St.bs blocks), .int .i64 pl]
def St.bs : List (List St) → List (List D)
  | [] => []
  | b :: r => [.sl (St.cs b)] :: St.bs r
def St.cs : List St → List (List D)
  | [] => []
  | x :: r => x.c :: St.cs r
end
/-- A block, as a cell. -/
def blk (b : List St) : List D := [.sl (b.map St.c)]
theorem St.cs_map : ∀ l : List St, St.cs l = l.map St.c
  | [] => by simp [St.cs]
  | x :: r => by rw [St.cs, St.cs_map r]; rfl
theorem St.bs_map : ∀ l : List (List St), St.bs l = l.map blk
  | [] => by simp [St.bs]
  | x :: r => by rw [St.bs, St.bs_map r, St.cs_map]; rfl
theorem St.c_eq (x : St) : x.c = [.int .i64 x.kind, .str x.mon, .str x.name, .int .i64 x.n] ++ x.e.e ++ [.sl (x.blocks.map blk), .int .i64 x.pl] := by
  cases x; rw [St.c, St.bs_map]
def Vr.c (x : Vr) : List D := [.str x.name, .int .i64 x.type, .int .i64 x.lo, .int .i64 x.hi, .int .i64 x.init, .int .i64 x.pl]
def Mt.c (x : Mt) : List D := [.str x.name, .sl (x.body.map St.c), .int .i64 x.pl]
def Mo.c (x : Mo) : List D := [.str x.name, .sl (x.vars.map Vr.c), .sl (x.methods.map Mt.c), .int .i64 x.pl]
def Ro.c (x : Ro) : List D := [.str x.name, .bool x.star, .int .i64 x.count, .sl (x.body.map St.c), .int .i64 x.pl]
def Pg.v (x : Pg) : V := .agg [.d (.sl (x.mons.map Mo.c)), .d (.sl (x.roles.map Ro.c))]
def Ex.cells (x : Ex) : List V := [iv x.op, sv' x.mon, sv' x.name, iv x.n, .d (.sl (x.kids.map Ex.e)), iv x.pl]
/-- An expression's cells. -/
def Ex.row (x : Ex) : List D := [.int .i64 x.op, .str x.mon, .str x.name, .int .i64 x.n, .sl (x.kids.map Ex.e), .int .i64 x.pl]
theorem Ex.e_row (x : Ex) : x.e = x.row := x.e_eq
def Ex.v (x : Ex) : V := .agg [iv x.op, sv' x.mon, sv' x.name, iv x.n, .d (.sl (x.kids.map Ex.e)), iv x.pl]
theorem PIdx.ex [Amb] {l : List Ex} {k : Nat} {K : List D → Prop} (h : k < l.length) (c : K (Ex.row l[k])) : PIdx (l.map Ex.e) (k : Int) K := PIdx.map (get_at h) (by rw [Ex.e_row]; exact c)
def St.v (x : St) : V := .agg [iv x.kind, sv' x.mon, sv' x.name, iv x.n, iv x.e.op, sv' x.e.mon, sv' x.e.name, iv x.e.n, .d (.sl (x.e.kids.map Ex.e)), iv x.e.pl, .d (.sl (x.blocks.map blk)), iv x.pl]
def Vr.v (x : Vr) : V := .agg [sv' x.name, iv x.type, iv x.lo, iv x.hi, iv x.init, iv x.pl]
def Mt.v (x : Mt) : V := .agg [sv' x.name, .d (.sl (x.body.map St.c)), iv x.pl]
def Ro.v (x : Ro) : V := .agg [sv' x.name, .d (.bool x.star), iv x.count, .d (.sl (x.body.map St.c)), iv x.pl]
theorem RL_vr (l : List Vr) : RL (l.map Vr.c) 6 := fun r hr => by obtain ⟨t, _, rfl⟩ := List.mem_map.1 hr; rfl
theorem RL_mt (l : List Mt) : RL (l.map Mt.c) 3 := fun r hr => by obtain ⟨t, _, rfl⟩ := List.mem_map.1 hr; rfl
theorem RL_mo (l : List Mo) : RL (l.map Mo.c) 4 := fun r hr => by obtain ⟨t, _, rfl⟩ := List.mem_map.1 hr; rfl
theorem RL_ro (l : List Ro) : RL (l.map Ro.c) 5 := fun r hr => by obtain ⟨t, _, rfl⟩ := List.mem_map.1 hr; rfl
def Mo.v (x : Mo) : V := .agg [sv' x.name, .d (.sl (x.vars.map Vr.c)), .d (.sl (x.methods.map Mt.c)), iv x.pl]
def scell (s : Str) : List D := [.str s]
end Go.Proofs.YtblnfodnkacbbaaGreatDoor.Q

namespace Go.Proofs.YtblnfodnkacbbaaGreatDoor.Q
open Go.RowKit
/-- All that lies in a world is known for good. -/
def allG (w : World) : Imm := fun b o => match w.cell? ⟨b, o, none⟩ with
  | some v => bif v.oneCell' then some v else none
  | none => none
theorem allG_of {w : World} {b o : Nat} {v : Value} (h : w.cell? ⟨b, o, none⟩ = some v) (h1 : v.oneCell' = true) : allG w b o = some v := by
  unfold allG; rw [h]; dsimp only; rw [h1]; rfl
theorem allG_cell {w : World} {b o : Nat} {v : Value} (h : allG w b o = some v) : w.cell? ⟨b, o, none⟩ = some v ∧ v.oneCell' = true := by
  unfold allG at h
  split at h
  · rename_i u hu
    cases h1 : u.oneCell' with
    | false => rw [h1] at h; cases h
    | true => rw [h1] at h; injection h with h; subst h; exact ⟨hu, h1⟩
  · cases h
def repDs (G : Imm) : List D → List Value → Prop
  | [], us => us = []
  | d :: ds, us => ∃ u us', us = u :: us' ∧ d.rep G u ∧ repDs G ds us'
theorem repDs_append {G : Imm} : ∀ {a b : List D} {us vs : List Value}, repDs G a us → repDs G b vs → repDs G (a ++ b) (us ++ vs)
  | [], b, us, vs, h, k => by have : us = [] := h; subst this; exact k
  | d :: a, b, us, vs, ⟨u, us', e, h1, h2⟩, k => ⟨u, us' ++ vs, by rw [e]; rfl, h1, repDs_append h2 k⟩
theorem repDs_get {G : Imm} : ∀ {r : List D} {us : List Value}, repDs G r us → ∀ (j : Nat) d, r[j]? = some d → ∃ u, us[j]? = some u ∧ d.rep G u
  | [], us, h, j, d, hd => by simp at hd
  | x :: r, us, ⟨u, us', e, h1, h2⟩, 0, d, hd => by simp at hd; subst hd; exact ⟨u, by rw [e]; rfl, h1⟩
  | x :: r, us, ⟨u, us', e, h1, h2⟩, j + 1, d, hd => by
    obtain ⟨v, k1, k2⟩ := repDs_get h2 j d (by simpa using hd)
    exact ⟨v, by rw [e]; simpa using k1, k2⟩
theorem repDs_len {G : Imm} : ∀ {r : List D} {us : List Value}, repDs G r us → r.length = us.length
  | [], us, h => by have : us = [] := h; subst this; rfl
  | x :: r, us, ⟨u, us', e, h1, h2⟩ => by rw [e]; simp [repDs_len h2]
theorem repDs_vs {G : Imm} {φ : Loc} : ∀ {r : List D} {us : List Value}, repDs G r us → repVs G φ (r.map V.d) us ∧ ∀ u ∈ us, u.oneCell' = true
  | [], us, h => by have : us = [] := h; subst this; exact ⟨rfl, by simp⟩
  | x :: r, us, ⟨u, us', e, h1, h2⟩ => by
    obtain ⟨k1, k2⟩ := repDs_vs (φ := φ) h2
    refine ⟨⟨u, us', e, h1, k1⟩, fun v hv => ?_⟩
    rw [e] at hv
    rcases List.mem_cons.1 hv with hv | hv
    · subst hv; exact D.rep_one h1
    · exact k2 v hv
/-- Whatever is read with so much fuel at a type is such data. -/
def RdD (P : Program) (fuel : Nat) (T : TypeId) (R : List D → Prop) : Prop :=
  ∀ (H : Type) (enc : TypeId × Value → H) (w : World) (cs : List Value) (y : DataW H × List MemPlace), DataW.trod enc P w 0 (fun _ => true) true fuel T cs = some y → ∃ r, R r ∧ repDs (allG w) r cs
theorem RdD.mono {P : Program} {fuel : Nat} {T : TypeId} {R R' : List D → Prop} (h : RdD P fuel T R) (k : ∀ r, R r → R' r) : RdD P fuel T R' := fun H enc w cs y hy => by
  obtain ⟨r, h1, h2⟩ := h H enc w cs y hy
  exact ⟨r, k r h1, h2⟩
theorem r64_wf {n : Int} (h : (Lit.int .i64 n).wf = true) : R64 n := by
  unfold R64
  simp [Lit.wf, IntKind.min, IntKind.max, IntKind.bits, IntKind.signed] at h
  omega
theorem rdD_i64 {P : Program} {T : TypeId} (hu : P.underlying T = some (.int .i64)) (fuel : Nat) : RdD P fuel T (fun r => ∃ n, R64 n ∧ r = [.int .i64 n]) := by
  intro H enc w cs y h
  cases fuel with
  | zero => simp [DataW.trod] at h
  | succ n =>
    unfold DataW.trod at h
    rw [hu] at h
    split at h <;> simp_all
    rename_i k k' m heq
    subst heq
    exact ⟨_, ⟨m, r64_wf h.1.2, rfl⟩, _, _, rfl, rfl, rfl⟩
theorem rdD_bool {P : Program} {T : TypeId} (hu : P.underlying T = some .bool) (fuel : Nat) : RdD P fuel T (fun r => ∃ b, r = [.bool b]) := by
  intro H enc w cs y h
  cases fuel with
  | zero => simp [DataW.trod] at h
  | succ n =>
    unfold DataW.trod at h
    rw [hu] at h
    split at h <;> simp_all
    rename_i _ b
    cases b
    · exact .inl ⟨_, _, rfl, rfl, rfl⟩
    · exact .inr ⟨_, _, rfl, rfl, rfl⟩
theorem rdD_str {P : Program} {T : TypeId} (hu : P.underlying T = some .string) (fuel : Nat) : RdD P fuel T (fun r => ∃ s : List UInt8, s.length ≤ maxLen ∧ r = [.str s]) := by
  intro H enc w cs y h
  cases fuel with
  | zero => simp [DataW.trod] at h
  | succ n =>
    unfold DataW.trod at h
    rw [hu] at h
    split at h <;> simp_all
    rename_i _ s
    exact ⟨_, ⟨s.data.toList, by rw [Array.length_toList]; exact h.1, rfl⟩, _, _, rfl, by simp [D.rep], rfl⟩
theorem cells_eachD {w : World} {a : Addr} {n : Nat} {cs : List Value} (h : w.cells? 0 a n = some cs) : cs.length = n ∧ ∀ (i : Nat) u, cs[i]? = some u → w.cell? (a.add i) = some u := by
  unfold World.cells? at h
  rw [if_pos (Nat.zero_le _)] at h
  have hl := mapM_some_length h
  rw [List.length_range] at hl
  refine ⟨hl, fun i u hi => ?_⟩
  have hlt := (List.getElem?_eq_some_iff.1 hi).1
  have := mapM_some_get h i i (by rw [List.getElem?_range (by omega)])
  rw [this, hi]
theorem spot_none {w : World} {a : Addr} {u : Value} (h : w.cell? a = some u) : a.spot = none := by
  unfold World.cell? at h
  split at h
  · split at h
    · cases h
    · rename_i h1; cases hs : a.spot with
      | none => rfl
      | some x => rw [hs] at h1; simp at h1
  · cases h
theorem rdD_slice {P : Program} {T e : TypeId} {R : List D → Prop} {sz : Nat} (hu : P.underlying T = some (.slice e)) (hc : P.cellsOf e = sz) (hsz : 0 < sz) (fuel : Nat) (hd : ∀ m, m < fuel → RdD P m e R) :
    RdD P fuel T (fun r => ∃ rows : List (List D), (∀ q ∈ rows, R q) ∧ rows.length ≤ maxLen ∧ r = [.sl rows]) := by
  intro H enc w cs y h
  rcases DataW.trod_slice hu h with ⟨rfl, _⟩ | ⟨a, len, cap, elems, rest, n, rfl, rfl, _, _, hlc, hl, hm, hel, _⟩
  · exact ⟨_, ⟨[], by simp, Nat.zero_le _, rfl⟩, _, _, rfl, ⟨none, 0, rfl, Nat.le_refl _, fun h => absurd rfl h⟩, rfl⟩
  · have step : ∀ i, i < len → ∃ r, R r ∧ ∃ cs, r.length = sz ∧ repDs (allG w) r cs ∧ cs.length = sz ∧ ∀ (j : Nat) u, cs[j]? = some u → w.cell? (a.add (i * sz + j)) = some u := by
      intro i hi
      have h1 := hel i hi
      rw [List.getElem?_eq_getElem (by omega), Option.bind_eq_some_iff] at h1
      obtain ⟨cs, hcs, ht⟩ := h1
      obtain ⟨r, hr, hx⟩ := hd n (Nat.lt_succ_self _) H enc w cs _ ht
      rw [hc] at hcs
      obtain ⟨hl1, hcell⟩ := cells_eachD hcs
      exact ⟨r, hr, cs, (repDs_len hx).trans hl1, hx, hl1, fun j u hj => by rw [← Go.Deep.add_add]; exact hcell j u hj⟩
    obtain ⟨f, hf⟩ := Go.Deep.choose_lt step
    have hmap : ∀ (m : Nat), m ≤ len → ∀ k, repRows (allG w) a.block (a.off + k * sz) sz (((List.range (len - k)).map fun i => f (i + k)).take m) := by
      intro m
      induction m with
      | zero => intro _ k; simp [repRows]
      | succ m ih =>
        intro hm k
        by_cases hk : k < len
        · have e : len - k = (len - (k + 1)) + 1 := by omega
          rw [e, List.range_succ_eq_map, List.map_cons, List.map_map, List.take_succ_cons]
          have ih' := ih (by omega) (k + 1)
          obtain ⟨hR, cs, l1, l2, l3, l4⟩ := hf (0 + k) (by omega)
          refine ⟨l1, repRow_of fun j d hj => ?_, ?_⟩
          · obtain ⟨u, u1, u2⟩ := repDs_get l2 j d hj
            have hcell := l4 j u u1
            refine ⟨u, ?_, u2⟩
            have hs := spot_none hcell
            refine allG_of ?_ (D.rep_one u2)
            rw [Nat.zero_add] at hcell
            unfold Addr.add at hcell
            split at hcell
            · rename_i h0
              have : a.spot = none := by rw [Nat.zero_add] at hs; unfold Addr.add at hs; rw [if_pos h0] at hs; exact hs
              have ea : a = ⟨a.block, a.off, none⟩ := by cases a; simp at this; subst this; rfl
              rw [ea] at hcell
              rw [show a.off + k * sz + j = a.off by omega]
              exact hcell
            · rw [show a.off + k * sz + j = a.off + (k * sz + j) by omega]; exact hcell
          · have e2 : (fun i => f (i + k)) ∘ Nat.succ = fun i => f (i + (k + 1)) := by funext i; simp only [Function.comp]; congr 1; omega
            rw [e2, show a.off + k * sz + sz = a.off + (k + 1) * sz by rw [Nat.add_mul]; omega]
            exact ih'
        · rw [show len - k = 0 by omega]; simp [repRows]
    refine ⟨_, ⟨(List.range len).map f, fun q hq => ?_, by simp; omega, rfl⟩, _, _, rfl, ⟨some a, cap, by simp, by simpa using hlc, fun hn => ⟨a.block, a.off, sz, ?_, ?_⟩⟩, rfl⟩
    · obtain ⟨i, hi, rfl⟩ := List.mem_map.1 hq
      exact (hf i (List.mem_range.1 hi)).1
    · have hpos : 0 < len := by
        rcases Nat.eq_zero_or_pos len with h0 | h0
        · subst h0; exact absurd rfl hn
        · exact h0
      obtain ⟨hR, cs, l1, l2, l3, l4⟩ := hf 0 hpos
      have hlt : 0 < cs.length := by omega
      have := spot_none (l4 0 cs[0] (List.getElem?_eq_getElem hlt))
      simp [Addr.add] at this
      cases a; simp at this; subst this; rfl
    · have := hmap len (Nat.le_refl _) 0
      rw [List.take_of_length_le (by simp)] at this
      simpa using this
/-- A struct's fields, from a place on. -/
def FRD (P : Program) (fuel : Nat) (off : Nat) (fs : List (TypeId × Nat)) (sz : Nat) (R : List D → Prop) : Prop :=
  ∀ (H : Type) (enc : TypeId × Value → H) (w : World) (cs : List Value), (∀ f ∈ fs, ∃ y, DataW.trod enc P w 0 (fun _ => true) true fuel f.1 ((cs.drop f.2).take (P.cellsOf f.1)) = some y) → cs.length = off + sz → ∃ r, R r ∧ repDs (allG w) r (cs.drop off)
theorem frD_last {P : Program} {fuel off : Nat} {t : TypeId} {sz : Nat} {R : List D → Prop} (hc : P.cellsOf t = sz) (hd : RdD P fuel t R) : FRD P fuel off [(t, off)] sz R := by
  intro H enc w cs h hl
  obtain ⟨y, hy⟩ := h _ (List.mem_singleton.2 rfl)
  have : (cs.drop off).take (P.cellsOf t) = cs.drop off := List.take_of_length_le (by rw [List.length_drop, hc]; omega)
  simp only [this] at hy
  exact hd H enc w _ _ hy
theorem frD_cons {P : Program} {fuel off : Nat} {t : TypeId} {fs : List (TypeId × Nat)} {sa sb : Nat} {A B : List D → Prop} (hc : P.cellsOf t = sa) (hd : RdD P fuel t A) (h : FRD P fuel (off + sa) fs sb B) : FRD P fuel off ((t, off) :: fs) (sa + sb) (fun r => ∃ a b, A a ∧ B b ∧ r = a ++ b) := by
  intro H enc w cs hf hl
  obtain ⟨y, hy⟩ := hf _ List.mem_cons_self
  simp only [hc] at hy
  obtain ⟨x1, h1, k1⟩ := hd H enc w _ _ hy
  obtain ⟨x2, h2, k2⟩ := h H enc w cs (fun f hm => hf f (List.mem_cons_of_mem _ hm)) (by omega)
  refine ⟨x1 ++ x2, ⟨x1, x2, h1, h2, rfl⟩, ?_⟩
  have e : cs.drop off = (cs.drop off).take sa ++ cs.drop (off + sa) := by
    rw [← List.drop_drop]; exact (List.take_append_drop _ _).symm
  rw [e]
  exact repDs_append k1 k2
def structOfD (P : Program) (T : TypeId) : Option (List (TypeId × Nat)) :=
  match P.underlying T with
  | some (.struct fs) => some (fs.toList.map fun f => (f.type, f.offset))
  | _ => none
theorem rdD_struct {P : Program} {T : TypeId} {fs : List (TypeId × Nat)} {sz : Nat} {R : List D → Prop} (hu : structOfD P T = some fs) (hc : P.cellsOf T = sz) (fuel : Nat) (h : ∀ m, m < fuel → FRD P m 0 fs sz R) : RdD P fuel T R := by
  intro H enc w cs y ht
  unfold structOfD at hu
  split at hu
  · rename_i gs hs
    obtain ⟨xs, n, rfl, _, hl, hxl, hx⟩ := DataW.trod_struct hs ht
    injection hu with hu
    subst hu
    obtain ⟨x, hk, hk2⟩ := h n (Nat.lt_succ_self _) H enc w cs (by
      intro f hf
      obtain ⟨g, hg, rfl⟩ := List.mem_map.1 hf
      obtain ⟨i, hi, rfl⟩ := List.getElem_of_mem hg
      have h1 := hx i gs[i] (by simp at hi; simp [hi])
      have hi2 : i < xs.length := by simp at hi; omega
      rw [List.getElem?_eq_getElem hi2] at h1
      exact ⟨_, by simpa using h1⟩) (by rw [hl, hc]; simp)
    exact ⟨x, hk, by simpa using hk2⟩
  · cases hu
/-- Rows that are each some one's are a list's. -/
theorem rows_map {α : Type} {f : α → List D} {p : α → Prop} : ∀ {rows : List (List D)}, (∀ q ∈ rows, ∃ x, p x ∧ q = f x) → ∃ l : List α, rows = l.map f ∧ ∀ x ∈ l, p x
  | [], _ => ⟨[], rfl, by simp⟩
  | q :: rows, h => by
    obtain ⟨x, h1, h2⟩ := h q List.mem_cons_self
    obtain ⟨l, k1, k2⟩ := rows_map (f := f) (p := p) (rows := rows) fun q' hq => h q' (List.mem_cons_of_mem _ hq)
    refine ⟨x :: l, by rw [h2, k1]; rfl, fun y hy => ?_⟩
    rcases List.mem_cons.1 hy with e | e
    · subst e; exact h1
    · exact k2 y e
end Go.Proofs.YtblnfodnkacbbaaGreatDoor.Q

namespace Go.Proofs.YtblnfodnkacbbaaGreatDoor.Q
open Go.RowKit
theorem rd_int (fuel : Nat) : RdD Tryz.prog fuel 3 (fun r => ∃ n, R64 n ∧ r = [.int .i64 n]) := rdD_i64 (by kernel_rfl) fuel
theorem rd_int64 (fuel : Nat) : RdD Tryz.prog fuel 2 (fun r => ∃ n, R64 n ∧ r = [.int .i64 n]) := rdD_i64 (by kernel_rfl) fuel
theorem rd_str (fuel : Nat) : RdD Tryz.prog fuel 9 (fun r => ∃ s : List UInt8, s.length ≤ maxLen ∧ r = [.str s]) := rdD_str (by kernel_rfl) fuel
theorem rd_bool (fuel : Nat) : RdD Tryz.prog fuel 4 (fun r => ∃ b, r = [.bool b]) := rdD_bool (by kernel_rfl) fuel
/-- Nothing is called back. -/
abbrev ambD : Amb where
  tabs := []
  memo := fun _ _ _ _ => False
  memo_mono := fun _ h => h
  l := 0
  J := fun _ _ _ _ => False
  ok := fun _ _ => False
  go := fun _ => true
  lt := fun h => h.elim
  stable := fun h => h.elim
  yield := fun h => h.elim
theorem ambD_sit (W : World) : @Sit ambD (allG W) W (fun _ _ => none) (hp []) :=
  @Sit.mk ambD _ _ _ _ ⟨fun _ _ _ h => .inl (allG_cell h), fun _ h => by cases h⟩ (fun i ob h => by cases h) (fun i j ob ob' b _ h => by cases h) (fun _ _ _ => rfl)
theorem goes_below {G' : Imm} {W W' : World} {φ φ' : Loc} {H' : Hp} (h : Goes (allG W) W φ (hp []) G' W' φ' H') : Below W.heap.size W W' :=
  ⟨h.os, h.tape, h.output, h.size, fun k hk => (h.block k hk (fun ⟨i, ob, hi, _⟩ => by cases hi) (fun ⟨⟨u, hu⟩, es, clk, he⟩ => by
    have hu := (allG_cell hu).1
    simp [World.cell?, he] at hu)).1⟩
theorem okWide_agg {P : Program} {W : World} {base : Nat} {T : TypeId} {v : Value} {fs : List (TypeId × Nat)} (hu : structOfD P T = some fs) (h : Value.okWide P W .any base T v) : ∃ cs : List Value, v = .agg cs.toArray := by
  unfold structOfD at hu
  split at hu
  · rename_i gs hs
    unfold Value.okWide at h
    rw [hs] at h
    obtain ⟨cs, rfl, _⟩ := h
    exact ⟨cs.toList, by simp⟩
  · cases hu
theorem read_agg {P : Program} {W : World} {base : Nat} {T : TypeId} {v : Value} {fs : List (TypeId × Nat)} {R : List D → Prop} {H : Type} {enc : TypeId × Value → H} {d : DataW H} {p : List MemPlace} (hu : structOfD P T = some fs) (hR : ∀ fuel, RdD P fuel T R) (hv : Value.okWide P W .any base T v)
    (h : DataW.Trod enc P W 0 (fun _ => true) true T v d p) : ∃ r, R r ∧ (V.agg (r.map V.d)).rep (allG W) (fun _ _ => none) v := by
  obtain ⟨cs, rfl⟩ := okWide_agg hu hv
  obtain ⟨fuel, hf⟩ := h
  simp only [Value.cells] at hf
  obtain ⟨r, h1, h2⟩ := hR fuel H enc W _ _ hf
  obtain ⟨k1, k2⟩ := repDs_vs (φ := fun _ _ => none) h2
  exact ⟨r, h1, cs, rfl, by simpa using k1, by simpa using k2⟩
theorem read_one {P : Program} {W : World} {T : TypeId} {v : Value} {R : List D → Prop} {H : Type} {enc : TypeId × Value → H} {d : DataW H} {p : List MemPlace} (hR : ∀ fuel, RdD P fuel T R) (hv : v.cells = #[v])
    (h : DataW.Trod enc P W 0 (fun _ => true) true T v d p) : ∃ r, R r ∧ repDs (allG W) r [v] := by
  obtain ⟨fuel, hf⟩ := h
  rw [hv] at hf
  exact hR fuel H enc W _ _ hf
section
variable {H : Type} {enc : TypeId × Value → H} {d : DataW H} {p : List MemPlace} {base : Nat}
theorem read_int (W : World) (v : Value) (hv : Value.okWide Tryz.prog W .any base 3 v) (h : DataW.Trod enc Tryz.prog W 0 (fun _ => true) true 3 v d p) : ∃ x : Int, R64 x ∧ (iv x).rep (allG W) (fun _ _ => none) v := by
  obtain ⟨n, rfl⟩ := WideShapes.okWide_int (k := .i64) (by kernel_rfl) hv
  obtain ⟨r, ⟨x, hx, rfl⟩, u, us, e, h1, _⟩ := read_one rd_int rfl h
  injection e with e1 e2
  exact ⟨x, hx, by rw [e1]; exact h1⟩
theorem read_int64 (W : World) (v : Value) (hv : Value.okWide Tryz.prog W .any base 2 v) (h : DataW.Trod enc Tryz.prog W 0 (fun _ => true) true 2 v d p) : ∃ x : Int, R64 x ∧ (iv x).rep (allG W) (fun _ _ => none) v := by
  obtain ⟨n, rfl⟩ := WideShapes.okWide_int (k := .i64) (by kernel_rfl) hv
  obtain ⟨r, ⟨x, hx, rfl⟩, u, us, e, h1, _⟩ := read_one rd_int64 rfl h
  injection e with e1 e2
  exact ⟨x, hx, by rw [e1]; exact h1⟩
theorem read_str (W : World) (v : Value) (hv : Value.okWide Tryz.prog W .any base 9 v) (h : DataW.Trod enc Tryz.prog W 0 (fun _ => true) true 9 v d p) : ∃ x : List UInt8, x.length ≤ maxLen ∧ (V.d (.str x)).rep (allG W) (fun _ _ => none) v := by
  obtain ⟨n, rfl⟩ := WideShapes.okWide_string (by kernel_rfl) hv
  obtain ⟨r, ⟨x, hx, rfl⟩, u, us, e, h1, _⟩ := read_one rd_str rfl h
  injection e with e1 e2
  exact ⟨x, hx, by rw [e1]; exact h1⟩
end
end Go.Proofs.YtblnfodnkacbbaaGreatDoor.Q
