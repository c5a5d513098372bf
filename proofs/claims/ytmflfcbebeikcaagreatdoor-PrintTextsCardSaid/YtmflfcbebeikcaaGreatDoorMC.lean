/- The program's types; numbers; programs as trees. No condition. -/
import Derived.Test.YtmflfcbebeikcaaGreatDoorMB
import Derived.Test.YtmflfcbebeikcaaGreatDoorProg
import Derived.KernelRfl
import Derived.Tactics
import Derived.Laws.BitsLemmas
import Derived.Laws.MathBits
import Derived.Laws.Bits64
import Derived.RowKit
set_option linter.unusedVariables false
set_option maxRecDepth 100000
namespace Go.Proofs.YtmflfcbebeikcaaGreatDoor.Q
def tab : List (Option TE) :=
  [some ⟨1, 0, .other, none, false⟩,
   some ⟨1, 8, .other, some (.d (.raw .nilFunc)), false⟩,
   some ⟨1, 8, .int .i64, some (.d (.int .i64 0)), false⟩,
   some ⟨1, 8, .int .i64, some (.d (.int .i64 0)), false⟩,
   some ⟨1, 1, .bool, some (.d (.bool false)), false⟩,
   some ⟨1, 1, .int .u8, some (.d (.int .u8 0)), false⟩,
   some ⟨1, 1, .int .u8, some (.d (.int .u8 0)), false⟩,
   some ⟨4, 24, .struct [(0, 2), (1, 3), (2, 4), (3, 6)], some (.agg [.d (.int .i64 0), .d (.int .i64 0), .d (.bool false), .d (.int .u8 0)]), true⟩,
   some ⟨4, 24, .struct [(0, 2), (1, 3), (2, 4), (3, 6)], some (.agg [.d (.int .i64 0), .d (.int .i64 0), .d (.bool false), .d (.int .u8 0)]), true⟩,
   some ⟨1, 16, .str, some (.d (.str [])), false⟩,
   some ⟨1, 16, .str, some (.d (.str [])), false⟩,
   some ⟨1, 16, .str, some (.d (.str [])), false⟩,
   some ⟨1, 8, .int .u64, some (.d (.int .u64 0)), false⟩,
   some ⟨2, 24, .struct [(0, 9), (1, 12)], some (.agg [.d (.str []), .d (.int .u64 0)]), false⟩,
   some ⟨2, 24, .struct [(0, 9), (1, 12)], some (.agg [.d (.str []), .d (.int .u64 0)]), false⟩,
   some ⟨1, 8, .ptr 222, some (.d (.raw (.pointer none))), false⟩,
   some ⟨1, 8, .ptr 225, some (.d (.raw (.pointer none))), false⟩,
   some ⟨1, 8, .ptr 233, some (.d (.raw (.pointer none))), false⟩,
   some ⟨1, 8, .struct [(0, 17)], some (.agg [.d (.raw (.pointer none))]), false⟩,
   some ⟨1, 8, .struct [(0, 17)], some (.agg [.d (.raw (.pointer none))]), false⟩,
   some ⟨1, 16, .other, some (.d (.raw .nilIface)), false⟩,
   some ⟨1, 4, .int .i32, some (.d (.int .i32 0)), false⟩,
   some ⟨1, 24, .slice 44, some (.fsl []), false⟩,
   some ⟨1, 24, .slice 52, some (.fsl []), false⟩,
   some ⟨2, 48, .struct [(0, 22), (1, 23)], some (.agg [.fsl [], .fsl []]), false⟩,
   some ⟨2, 48, .struct [(0, 22), (1, 23)], some (.agg [.fsl [], .fsl []]), false⟩,
   some ⟨1, 8, .other, some (.d (.raw .nilFunc)), false⟩,
   some ⟨1, 8, .other, some (.d (.raw .nilFunc)), false⟩,
   some ⟨1, 8, .int .i64, some (.d (.int .i64 0)), false⟩,
   some ⟨1, 0, .other, none, false⟩,
   some ⟨1, 8, .other, some (.d (.raw .nilFunc)), false⟩,
   some ⟨1, 0, .other, none, false⟩,
   some ⟨1, 8, .other, some (.d (.raw .nilFunc)), false⟩,
   some ⟨1, 8, .other, some (.d (.raw .nilFunc)), false⟩,
   some ⟨1, 8, .other, some (.d (.raw .nilFunc)), false⟩,
   some ⟨1, 8, .other, some (.d (.raw .nilFunc)), false⟩,
   some ⟨1, 0, .other, none, false⟩,
   some ⟨1, 8, .other, some (.d (.raw .nilFunc)), false⟩,
   some ⟨1, 8, .other, some (.d (.raw .nilFunc)), false⟩,
   some ⟨1, 8, .other, some (.d (.raw .nilFunc)), false⟩,
   some ⟨1, 8, .other, some (.d (.raw .nilFunc)), false⟩,
   some ⟨1, 24, .slice 46, some (.fsl []), false⟩,
   some ⟨1, 24, .slice 49, some (.fsl []), false⟩,
   some ⟨4, 72, .struct [(0, 9), (1, 41), (2, 42), (3, 3)], some (.agg [.d (.str []), .fsl [], .fsl [], .d (.int .i64 0)]), false⟩,
   some ⟨4, 72, .struct [(0, 9), (1, 41), (2, 42), (3, 3)], some (.agg [.d (.str []), .fsl [], .fsl [], .d (.int .i64 0)]), false⟩,
   some ⟨6, 56, .struct [(0, 9), (1, 3), (2, 2), (3, 2), (4, 2), (5, 3)], some (.agg [.d (.str []), .d (.int .i64 0), .d (.int .i64 0), .d (.int .i64 0), .d (.int .i64 0), .d (.int .i64 0)]), true⟩,
   some ⟨6, 56, .struct [(0, 9), (1, 3), (2, 2), (3, 2), (4, 2), (5, 3)], some (.agg [.d (.str []), .d (.int .i64 0), .d (.int .i64 0), .d (.int .i64 0), .d (.int .i64 0), .d (.int .i64 0)]), true⟩,
   some ⟨1, 24, .slice 60, some (.fsl []), false⟩,
   some ⟨3, 48, .struct [(0, 9), (1, 47), (2, 3)], some (.agg [.d (.str []), .fsl [], .d (.int .i64 0)]), false⟩,
   some ⟨3, 48, .struct [(0, 9), (1, 47), (2, 3)], some (.agg [.d (.str []), .fsl [], .d (.int .i64 0)]), false⟩,
   some ⟨1, 8, .other, some (.d (.raw .nilFunc)), false⟩,
   some ⟨5, 64, .struct [(0, 9), (1, 4), (2, 2), (3, 47), (4, 3)], some (.agg [.d (.str []), .d (.bool false), .d (.int .i64 0), .fsl [], .d (.int .i64 0)]), false⟩,
   some ⟨5, 64, .struct [(0, 9), (1, 4), (2, 2), (3, 47), (4, 3)], some (.agg [.d (.str []), .d (.bool false), .d (.int .i64 0), .fsl [], .d (.int .i64 0)]), false⟩,
   some ⟨1, 24, .slice 55, some (.fsl []), false⟩,
   some ⟨6, 80, .struct [(0, 3), (1, 9), (2, 9), (3, 2), (4, 53), (5, 3)], some (.agg [.d (.int .i64 0), .d (.str []), .d (.str []), .d (.int .i64 0), .fsl [], .d (.int .i64 0)]), false⟩,
   some ⟨6, 80, .struct [(0, 3), (1, 9), (2, 9), (3, 2), (4, 53), (5, 3)], some (.agg [.d (.int .i64 0), .d (.str []), .d (.str []), .d (.int .i64 0), .fsl [], .d (.int .i64 0)]), false⟩,
   some ⟨1, 8, .other, some (.d (.raw .nilFunc)), false⟩,
   some ⟨1, 8, .other, some (.d (.raw .nilFunc)), false⟩,
   some ⟨1, 24, .slice 47, some (.fsl []), false⟩,
   some ⟨12, 160, .struct [(0, 3), (1, 9), (2, 9), (3, 2), (4, 55), (10, 58), (11, 3)], some (.agg [.d (.int .i64 0), .d (.str []), .d (.str []), .d (.int .i64 0), .d (.int .i64 0), .d (.str []), .d (.str []), .d (.int .i64 0), .fsl [], .d (.int .i64 0), .fsl [], .d (.int .i64 0)]), false⟩,
   some ⟨12, 160, .struct [(0, 3), (1, 9), (2, 9), (3, 2), (4, 55), (10, 58), (11, 3)], some (.agg [.d (.int .i64 0), .d (.str []), .d (.str []), .d (.int .i64 0), .d (.int .i64 0), .d (.str []), .d (.str []), .d (.int .i64 0), .fsl [], .d (.int .i64 0), .fsl [], .d (.int .i64 0)]), false⟩,
   some ⟨1, 8, .other, some (.d (.raw .nilFunc)), false⟩,
   some ⟨1, 8, .ptr 74, some (.d (.raw (.pointer none))), false⟩,
   some ⟨1, 8, .other, some (.d (.raw .nilFunc)), false⟩,
   some ⟨1, 8, .other, some (.d (.raw .nilFunc)), false⟩,
   some ⟨1, 8, .other, some (.d (.raw .nilFunc)), false⟩,
   some ⟨1, 8, .other, some (.d (.raw .nilFunc)), false⟩,
   some ⟨1, 8, .other, some (.d (.raw .nilFunc)), false⟩,
   some ⟨1, 8, .ptr 71, some (.d (.raw (.pointer none))), false⟩,
   some ⟨1, 24, .slice 5, some (.fsl []), false⟩,
   some ⟨2, 32, .struct [(0, 68), (1, 69)], some (.agg [.d (.raw (.pointer none)), .d (.raw (.slice none 0 0))]), false⟩,
   some ⟨2, 32, .struct [(0, 68), (1, 69)], some (.agg [.d (.raw (.pointer none)), .d (.raw (.slice none 0 0))]), false⟩,
   some ⟨1, 8, .map 3 9, some (.d (.raw (.map none))), false⟩,
   some ⟨4, 48, .struct [(0, 71), (2, 3), (3, 72)], some (.agg [.d (.raw (.pointer none)), .d (.raw (.slice none 0 0)), .d (.int .i64 0), .d (.raw (.map none))]), false⟩,
   some ⟨4, 48, .struct [(0, 71), (2, 3), (3, 72)], some (.agg [.d (.raw (.pointer none)), .d (.raw (.slice none 0 0)), .d (.int .i64 0), .d (.raw (.map none))]), false⟩,
   some ⟨1, 8, .other, some (.d (.raw .nilFunc)), false⟩,
   some ⟨1, 8, .other, some (.d (.raw .nilFunc)), false⟩,
   some ⟨1, 8, .other, some (.d (.raw .nilFunc)), false⟩,
   some ⟨1, 8, .other, some (.d (.raw .nilFunc)), false⟩,
   some ⟨1, 0, .other, none, false⟩,
   some ⟨1, 8, .other, some (.d (.raw .nilFunc)), false⟩,
   some ⟨1, 24, .slice 111, some (.fsl []), false⟩,
   some ⟨1, 0, .other, none, false⟩,
   some ⟨1, 8, .other, some (.d (.raw .nilFunc)), false⟩,
   some ⟨1, 8, .ptr 88, some (.d (.raw (.pointer none))), false⟩,
   some ⟨2, 16, .struct [(0, 28), (1, 3)], some (.agg [.d (.int .i64 0), .d (.int .i64 0)]), true⟩,
   some ⟨2, 16, .struct [(0, 28), (1, 3)], some (.agg [.d (.int .i64 0), .d (.int .i64 0)]), true⟩,
   some ⟨4, 48, .struct [(0, 86), (2, 81), (3, 3)], some (.agg [.d (.int .i64 0), .d (.int .i64 0), .fsl [], .d (.int .i64 0)]), false⟩,
   some ⟨4, 48, .struct [(0, 86), (2, 81), (3, 3)], some (.agg [.d (.int .i64 0), .d (.int .i64 0), .fsl [], .d (.int .i64 0)]), false⟩,
   some ⟨1, 8, .other, some (.d (.raw .nilFunc)), false⟩,
   some ⟨1, 8, .other, some (.d (.raw .nilFunc)), false⟩,
   some ⟨1, 8, .other, some (.d (.raw .nilFunc)), false⟩,
   some ⟨1, 8, .other, some (.d (.raw .nilFunc)), false⟩,
   some ⟨1, 8, .other, some (.d (.raw .nilFunc)), false⟩,
   some ⟨1, 8, .other, some (.d (.raw .nilFunc)), false⟩,
   some ⟨1, 8, .other, some (.d (.raw .nilFunc)), false⟩,
   some ⟨1, 8, .other, some (.d (.raw .nilFunc)), false⟩,
   some ⟨1, 8, .other, some (.d (.raw .nilFunc)), false⟩,
   some ⟨1, 8, .other, some (.d (.raw .nilFunc)), false⟩,
   some ⟨1, 8, .other, some (.d (.raw .nilFunc)), false⟩,
   some ⟨1, 8, .other, some (.d (.raw .nilFunc)), false⟩,
   some ⟨1, 8, .other, some (.d (.raw .nilFunc)), false⟩,
   some ⟨1, 8, .other, some (.d (.raw .nilFunc)), false⟩,
   some ⟨1, 8, .other, some (.d (.raw .nilFunc)), false⟩,
   some ⟨1, 8, .ptr 5, some (.d (.raw (.pointer none))), false⟩,
   some ⟨1, 8, .other, some (.d (.raw .nilFunc)), false⟩,
   some ⟨1, 8, .other, some (.d (.raw .nilFunc)), false⟩,
   some ⟨1, 8, .other, some (.d (.raw .nilFunc)), false⟩,
   some ⟨1, 8, .other, some (.d (.raw .nilFunc)), false⟩,
   some ⟨1, 8, .other, some (.d (.raw .nilFunc)), false⟩,
   some ⟨4, 40, .struct [(0, 3), (1, 9), (2, 2), (3, 3)], some (.agg [.d (.int .i64 0), .d (.str []), .d (.int .i64 0), .d (.int .i64 0)]), true⟩,
   some ⟨4, 40, .struct [(0, 3), (1, 9), (2, 2), (3, 3)], some (.agg [.d (.int .i64 0), .d (.str []), .d (.int .i64 0), .d (.int .i64 0)]), true⟩,
   some ⟨1, 8, .other, some (.d (.raw .nilFunc)), false⟩,
   some ⟨3, 48, .struct [(0, 9), (1, 3), (2, 81)], some (.agg [.d (.str []), .d (.int .i64 0), .fsl []]), false⟩,
   some ⟨3, 48, .struct [(0, 9), (1, 3), (2, 81)], some (.agg [.d (.str []), .d (.int .i64 0), .fsl []]), false⟩,
   some ⟨1, 8, .other, some (.d (.raw .nilFunc)), false⟩,
   some ⟨1, 8, .other, some (.d (.raw .nilFunc)), false⟩,
   some ⟨1, 8, .other, some (.d (.raw .nilFunc)), false⟩,
   some ⟨1, 8, .other, some (.d (.raw .nilFunc)), false⟩,
   some ⟨1, 8, .other, some (.d (.raw .nilFunc)), false⟩,
   some ⟨1, 8, .other, some (.d (.raw .nilFunc)), false⟩,
   some ⟨1, 8, .other, some (.d (.raw .nilFunc)), false⟩,
   some ⟨1, 8, .other, some (.d (.raw .nilFunc)), false⟩,
   some ⟨1, 8, .other, some (.d (.raw .nilFunc)), false⟩,
   some ⟨1, 8, .other, some (.d (.raw .nilFunc)), false⟩,
   some ⟨1, 8, .other, some (.d (.raw .nilFunc)), false⟩,
   some ⟨1, 8, .other, some (.d (.raw .nilFunc)), false⟩,
   some ⟨1, 8, .other, some (.d (.raw .nilFunc)), false⟩,
   some ⟨1, 8, .other, some (.d (.raw .nilFunc)), false⟩,
   some ⟨1, 8, .other, some (.d (.raw .nilFunc)), false⟩,
   some ⟨1, 8, .other, some (.d (.raw .nilFunc)), false⟩,
   some ⟨1, 8, .other, some (.d (.raw .nilFunc)), false⟩,
   some ⟨1, 8, .other, some (.d (.raw .nilFunc)), false⟩,
   some ⟨1, 8, .other, some (.d (.raw .nilFunc)), false⟩,
   some ⟨1, 8, .other, some (.d (.raw .nilFunc)), false⟩,
   some ⟨2, 16, .arr 2 3, some (.agg [.d (.int .i64 0), .d (.int .i64 0)]), false⟩,
   some ⟨1, 8, .other, some (.d (.raw .nilFunc)), false⟩,
   some ⟨1, 24, .slice 9, some (.fsl []), false⟩,
   some ⟨1, 8, .other, some (.d (.raw .nilFunc)), false⟩,
   some ⟨1, 8, .other, some (.d (.raw .nilFunc)), false⟩,
   some ⟨1, 16, .other, some (.d (.raw .nilIface)), false⟩,
   some ⟨1, 16, .other, some (.d (.raw .nilIface)), false⟩,
   some ⟨1, 0, .other, none, false⟩,
   some ⟨1, 8, .other, some (.d (.raw .nilFunc)), false⟩,
   some ⟨1, 8, .other, some (.d (.raw .nilFunc)), false⟩,
   some ⟨1, 8, .other, some (.d (.raw .nilFunc)), false⟩,
   some ⟨1, 24, .slice 4, some (.fsl []), false⟩,
   some ⟨1, 0, .other, none, false⟩,
   some ⟨1, 8, .other, some (.d (.raw .nilFunc)), false⟩,
   some ⟨1, 8, .other, some (.d (.raw .nilFunc)), false⟩,
   some ⟨1, 0, .other, none, false⟩,
   some ⟨1, 8, .other, some (.d (.raw .nilFunc)), false⟩,
   some ⟨1, 8, .other, some (.d (.raw .nilFunc)), false⟩,
   some ⟨1, 24, .slice 178, some (.fsl []), false⟩,
   some ⟨1, 8, .other, some (.d (.raw .nilFunc)), false⟩,
   some ⟨1, 8, .ptr 114, some (.d (.raw (.pointer none))), false⟩,
   some ⟨1, 8, .int .i64, some (.d (.int .i64 0)), false⟩,
   some ⟨1, 8, .other, some (.d (.raw .nilFunc)), false⟩,
   some ⟨1, 8, .other, some (.d (.raw .nilFunc)), false⟩,
   some ⟨1, 8, .other, some (.d (.raw .nilFunc)), false⟩,
   some ⟨1, 8, .other, some (.d (.raw .nilFunc)), false⟩,
   some ⟨1, 8, .other, some (.d (.raw .nilFunc)), false⟩,
   some ⟨1, 8, .other, some (.d (.raw .nilFunc)), false⟩,
   some ⟨1, 8, .other, some (.d (.raw .nilFunc)), false⟩,
   some ⟨1, 8, .other, some (.d (.raw .nilFunc)), false⟩,
   some ⟨1, 8, .other, some (.d (.raw .nilFunc)), false⟩,
   some ⟨1, 8, .other, some (.d (.raw .nilFunc)), false⟩,
   some ⟨1, 8, .other, some (.d (.raw .nilFunc)), false⟩,
   some ⟨1, 8, .other, some (.d (.raw .nilFunc)), false⟩,
   some ⟨1, 8, .other, some (.d (.raw .nilFunc)), false⟩,
   some ⟨1, 8, .other, some (.d (.raw .nilFunc)), false⟩,
   some ⟨1, 8, .other, some (.d (.raw .nilFunc)), false⟩,
   some ⟨1, 8, .other, some (.d (.raw .nilFunc)), false⟩,
   some ⟨1, 8, .other, some (.d (.raw .nilFunc)), false⟩,
   some ⟨1, 0, .other, none, false⟩,
   some ⟨1, 8, .other, some (.d (.raw .nilFunc)), false⟩,
   some ⟨1, 24, .slice 3, some (.fsl []), false⟩,
   some ⟨3, 56, .struct [(0, 137), (1, 176), (2, 4)], some (.agg [.fsl [], .fsl [], .d (.bool false)]), false⟩,
   some ⟨3, 56, .struct [(0, 137), (1, 176), (2, 4)], some (.agg [.fsl [], .fsl [], .d (.bool false)]), false⟩,
   some ⟨1, 8, .other, some (.d (.raw .nilFunc)), false⟩,
   some ⟨7, 112, .arr 7 9, some (.agg [.d (.str []), .d (.str []), .d (.str []), .d (.str []), .d (.str []), .d (.str []), .d (.str [])]), false⟩,
   some ⟨1, 8, .other, some (.d (.raw .nilFunc)), false⟩,
   some ⟨1, 8, .other, some (.d (.raw .nilFunc)), false⟩,
   some ⟨1, 8, .other, some (.d (.raw .nilFunc)), false⟩,
   some ⟨1, 8, .other, some (.d (.raw .nilFunc)), false⟩,
   some ⟨1, 8, .other, some (.d (.raw .nilFunc)), false⟩,
   some ⟨1, 8, .other, some (.d (.raw .nilFunc)), false⟩,
   some ⟨4, 4, .arr 4 4, some (.agg [.d (.bool false), .d (.bool false), .d (.bool false), .d (.bool false)]), false⟩,
   some ⟨6, 24, .struct [(0, 187), (4, 3), (5, 3)], some (.agg [.d (.bool false), .d (.bool false), .d (.bool false), .d (.bool false), .d (.int .i64 0), .d (.int .i64 0)]), false⟩,
   some ⟨6, 24, .struct [(0, 187), (4, 3), (5, 3)], some (.agg [.d (.bool false), .d (.bool false), .d (.bool false), .d (.bool false), .d (.int .i64 0), .d (.int .i64 0)]), false⟩,
   some ⟨1, 0, .other, none, false⟩,
   some ⟨1, 8, .other, some (.d (.raw .nilFunc)), false⟩,
   some ⟨1, 8, .other, some (.d (.raw .nilFunc)), false⟩,
   some ⟨18, 144, .arr 18 3, some (.agg [.d (.int .i64 0), .d (.int .i64 0), .d (.int .i64 0), .d (.int .i64 0), .d (.int .i64 0), .d (.int .i64 0), .d (.int .i64 0), .d (.int .i64 0), .d (.int .i64 0), .d (.int .i64 0), .d (.int .i64 0), .d (.int .i64 0), .d (.int .i64 0), .d (.int .i64 0), .d (.int .i64 0), .d (.int .i64 0), .d (.int .i64 0), .d (.int .i64 0)]), false⟩,
   some ⟨1, 8, .other, some (.d (.raw .nilFunc)), false⟩,
   some ⟨1, 8, .other, some (.d (.raw (.pointer none))), false⟩,
   some ⟨1, 8, .other, some (.d (.raw .nilFunc)), false⟩,
   some ⟨24, 24, .arr 24 5, some (.agg [.d (.int .u8 0), .d (.int .u8 0), .d (.int .u8 0), .d (.int .u8 0), .d (.int .u8 0), .d (.int .u8 0), .d (.int .u8 0), .d (.int .u8 0), .d (.int .u8 0), .d (.int .u8 0), .d (.int .u8 0), .d (.int .u8 0), .d (.int .u8 0), .d (.int .u8 0), .d (.int .u8 0), .d (.int .u8 0), .d (.int .u8 0), .d (.int .u8 0), .d (.int .u8 0), .d (.int .u8 0), .d (.int .u8 0), .d (.int .u8 0), .d (.int .u8 0), .d (.int .u8 0)]), false⟩,
   some ⟨1, 8, .int .u64, some (.d (.int .u64 0)), false⟩,
   some ⟨1, 8, .other, some (.d (.raw .nilFunc)), false⟩,
   some ⟨1, 8, .other, some (.d (.raw .nilFunc)), false⟩,
   some ⟨1, 0, .other, none, false⟩,
   some ⟨1, 8, .other, some (.d (.raw .nilFunc)), false⟩,
   some ⟨1, 0, .other, none, false⟩,
   some ⟨1, 8, .other, some (.d (.raw .nilFunc)), false⟩,
   some ⟨1, 8, .map 9 3, some (.d (.raw (.map none))), false⟩,
   some ⟨1, 8, .other, some (.d (.raw .nilFunc)), false⟩,
   some ⟨1, 8, .other, some (.d (.raw .nilFunc)), false⟩,
   some ⟨1, 8, .ptr 60, some (.d (.raw (.pointer none))), false⟩,
   some ⟨1, 8, .other, some (.d (.raw .nilFunc)), false⟩,
   some ⟨72, 288, .arr 12 189, some (.agg [.d (.bool false), .d (.bool false), .d (.bool false), .d (.bool false), .d (.int .i64 0), .d (.int .i64 0), .d (.bool false), .d (.bool false), .d (.bool false), .d (.bool false), .d (.int .i64 0), .d (.int .i64 0), .d (.bool false), .d (.bool false), .d (.bool false), .d (.bool false), .d (.int .i64 0), .d (.int .i64 0), .d (.bool false), .d (.bool false), .d (.bool false), .d (.bool false), .d (.int .i64 0), .d (.int .i64 0), .d (.bool false), .d (.bool false), .d (.bool false), .d (.bool false), .d (.int .i64 0), .d (.int .i64 0), .d (.bool false), .d (.bool false), .d (.bool false), .d (.bool false), .d (.int .i64 0), .d (.int .i64 0), .d (.bool false), .d (.bool false), .d (.bool false), .d (.bool false), .d (.int .i64 0), .d (.int .i64 0), .d (.bool false), .d (.bool false), .d (.bool false), .d (.bool false), .d (.int .i64 0), .d (.int .i64 0), .d (.bool false), .d (.bool false), .d (.bool false), .d (.bool false), .d (.int .i64 0), .d (.int .i64 0), .d (.bool false), .d (.bool false), .d (.bool false), .d (.bool false), .d (.int .i64 0), .d (.int .i64 0), .d (.bool false), .d (.bool false), .d (.bool false), .d (.bool false), .d (.int .i64 0), .d (.int .i64 0), .d (.bool false), .d (.bool false), .d (.bool false), .d (.bool false), .d (.int .i64 0), .d (.int .i64 0)]), false⟩,
   some ⟨1, 8, .other, some (.d (.raw .nilFunc)), false⟩,
   some ⟨20, 160, .arr 20 198, some (.agg [.d (.int .u64 0), .d (.int .u64 0), .d (.int .u64 0), .d (.int .u64 0), .d (.int .u64 0), .d (.int .u64 0), .d (.int .u64 0), .d (.int .u64 0), .d (.int .u64 0), .d (.int .u64 0), .d (.int .u64 0), .d (.int .u64 0), .d (.int .u64 0), .d (.int .u64 0), .d (.int .u64 0), .d (.int .u64 0), .d (.int .u64 0), .d (.int .u64 0), .d (.int .u64 0), .d (.int .u64 0)]), false⟩,
   some ⟨1, 4, .int .u32, some (.d (.int .u32 0)), false⟩,
   some ⟨65, 65, .arr 65 5, some (.agg [.d (.int .u8 0), .d (.int .u8 0), .d (.int .u8 0), .d (.int .u8 0), .d (.int .u8 0), .d (.int .u8 0), .d (.int .u8 0), .d (.int .u8 0), .d (.int .u8 0), .d (.int .u8 0), .d (.int .u8 0), .d (.int .u8 0), .d (.int .u8 0), .d (.int .u8 0), .d (.int .u8 0), .d (.int .u8 0), .d (.int .u8 0), .d (.int .u8 0), .d (.int .u8 0), .d (.int .u8 0), .d (.int .u8 0), .d (.int .u8 0), .d (.int .u8 0), .d (.int .u8 0), .d (.int .u8 0), .d (.int .u8 0), .d (.int .u8 0), .d (.int .u8 0), .d (.int .u8 0), .d (.int .u8 0), .d (.int .u8 0), .d (.int .u8 0), .d (.int .u8 0), .d (.int .u8 0), .d (.int .u8 0), .d (.int .u8 0), .d (.int .u8 0), .d (.int .u8 0), .d (.int .u8 0), .d (.int .u8 0), .d (.int .u8 0), .d (.int .u8 0), .d (.int .u8 0), .d (.int .u8 0), .d (.int .u8 0), .d (.int .u8 0), .d (.int .u8 0), .d (.int .u8 0), .d (.int .u8 0), .d (.int .u8 0), .d (.int .u8 0), .d (.int .u8 0), .d (.int .u8 0), .d (.int .u8 0), .d (.int .u8 0), .d (.int .u8 0), .d (.int .u8 0), .d (.int .u8 0), .d (.int .u8 0), .d (.int .u8 0), .d (.int .u8 0), .d (.int .u8 0), .d (.int .u8 0), .d (.int .u8 0), .d (.int .u8 0)]), false⟩,
   some ⟨1, 8, .other, some (.d (.raw .nilFunc)), false⟩,
   some ⟨1, 8, .int .u64, some (.d (.int .u64 0)), false⟩,
   some ⟨1, 8, .other, some (.d (.raw .nilFunc)), false⟩,
   some ⟨1, 8, .other, some (.d (.raw .nilFunc)), false⟩,
   some ⟨32, 32, .arr 32 5, some (.agg [.d (.int .u8 0), .d (.int .u8 0), .d (.int .u8 0), .d (.int .u8 0), .d (.int .u8 0), .d (.int .u8 0), .d (.int .u8 0), .d (.int .u8 0), .d (.int .u8 0), .d (.int .u8 0), .d (.int .u8 0), .d (.int .u8 0), .d (.int .u8 0), .d (.int .u8 0), .d (.int .u8 0), .d (.int .u8 0), .d (.int .u8 0), .d (.int .u8 0), .d (.int .u8 0), .d (.int .u8 0), .d (.int .u8 0), .d (.int .u8 0), .d (.int .u8 0), .d (.int .u8 0), .d (.int .u8 0), .d (.int .u8 0), .d (.int .u8 0), .d (.int .u8 0), .d (.int .u8 0), .d (.int .u8 0), .d (.int .u8 0), .d (.int .u8 0)]), false⟩,
   some ⟨64, 64, .arr 64 5, some (.agg [.d (.int .u8 0), .d (.int .u8 0), .d (.int .u8 0), .d (.int .u8 0), .d (.int .u8 0), .d (.int .u8 0), .d (.int .u8 0), .d (.int .u8 0), .d (.int .u8 0), .d (.int .u8 0), .d (.int .u8 0), .d (.int .u8 0), .d (.int .u8 0), .d (.int .u8 0), .d (.int .u8 0), .d (.int .u8 0), .d (.int .u8 0), .d (.int .u8 0), .d (.int .u8 0), .d (.int .u8 0), .d (.int .u8 0), .d (.int .u8 0), .d (.int .u8 0), .d (.int .u8 0), .d (.int .u8 0), .d (.int .u8 0), .d (.int .u8 0), .d (.int .u8 0), .d (.int .u8 0), .d (.int .u8 0), .d (.int .u8 0), .d (.int .u8 0), .d (.int .u8 0), .d (.int .u8 0), .d (.int .u8 0), .d (.int .u8 0), .d (.int .u8 0), .d (.int .u8 0), .d (.int .u8 0), .d (.int .u8 0), .d (.int .u8 0), .d (.int .u8 0), .d (.int .u8 0), .d (.int .u8 0), .d (.int .u8 0), .d (.int .u8 0), .d (.int .u8 0), .d (.int .u8 0), .d (.int .u8 0), .d (.int .u8 0), .d (.int .u8 0), .d (.int .u8 0), .d (.int .u8 0), .d (.int .u8 0), .d (.int .u8 0), .d (.int .u8 0), .d (.int .u8 0), .d (.int .u8 0), .d (.int .u8 0), .d (.int .u8 0), .d (.int .u8 0), .d (.int .u8 0), .d (.int .u8 0), .d (.int .u8 0)]), false⟩,
   some ⟨4, 40, .struct [(0, 17), (1, 17), (2, 17), (3, 9)], some (.agg [.d (.raw (.pointer none)), .d (.raw (.pointer none)), .d (.raw (.pointer none)), .d (.str [])]), false⟩,
   some ⟨4, 40, .struct [(0, 17), (1, 17), (2, 17), (3, 9)], some (.agg [.d (.raw (.pointer none)), .d (.raw (.pointer none)), .d (.raw (.pointer none)), .d (.str [])]), false⟩,
   some ⟨0, 0, .arr 0 16, some (.agg []), false⟩,
   some ⟨0, 0, .struct [(0, 223)], some (.agg []), false⟩,
   some ⟨0, 0, .struct [(0, 223)], some (.agg []), false⟩,
   some ⟨1, 8, .other, some (.d (.raw .nilFunc)), false⟩,
   some ⟨1, 1, .int .u8, some (.d (.int .u8 0)), false⟩,
   some ⟨1, 1, .int .u8, some (.d (.int .u8 0)), false⟩,
   some ⟨1, 8, .other, some (.d (.raw .nilFunc)), false⟩,
   some ⟨1, 4, .int .i32, some (.d (.int .i32 0)), false⟩,
   some ⟨1, 4, .int .i32, some (.d (.int .i32 0)), false⟩,
   some ⟨11, 48, .struct [(0, 12), (1, 12), (2, 213), (3, 227), (4, 5), (5, 5), (6, 228), (7, 229), (8, 104), (9, 230), (10, 231)], some (.agg [.d (.int .u64 0), .d (.int .u64 0), .d (.int .u32 0), .d (.int .u8 0), .d (.int .u8 0), .d (.int .u8 0), .d (.int .u8 0), .d (.raw .nilFunc), .d (.raw (.pointer none)), .d (.int .i32 0), .d (.int .i32 0)]), false⟩,
   some ⟨11, 48, .struct [(0, 12), (1, 12), (2, 213), (3, 227), (4, 5), (5, 5), (6, 228), (7, 229), (8, 104), (9, 230), (10, 231)], some (.agg [.d (.int .u64 0), .d (.int .u64 0), .d (.int .u32 0), .d (.int .u8 0), .d (.int .u8 0), .d (.int .u8 0), .d (.int .u8 0), .d (.raw .nilFunc), .d (.raw (.pointer none)), .d (.int .i32 0), .d (.int .i32 0)]), false⟩]
def tt : TT := fun t => tab.getD t none
theorem tab_eq : (List.range Tryz.prog.types.size).map (mkTE Tryz.prog) = tab := by kernel_rfl
theorem tt_ok : TTok Tryz.prog tt := by
  intro t e h
  unfold tt at h
  rw [← tab_eq, List.getD_eq_getElem?_getD, List.getElem?_map] at h
  cases hr : (List.range Tryz.prog.types.size)[t]? with
  | none => rw [hr] at h; cases h
  | some k =>
    rw [hr] at h
    obtain ⟨h1, h2⟩ := List.getElem?_eq_some_iff.1 hr
    rw [List.getElem_range] at h2
    subst h2
    exact h
theorem pok : POk Tryz.prog tt := ⟨tt_ok, by kernel_rfl⟩
end Go.Proofs.YtmflfcbebeikcaaGreatDoor.Q

set_option linter.unusedSectionVars false
set_option linter.unnecessarySimpa false
set_option linter.unusedSimpArgs false
namespace Go.Proofs.YtmflfcbebeikcaaGreatDoor.Q
open Go.RowKit
/-- A number of 64 bits. -/
def R64 (n : Int) : Prop := -9223372036854775808 ≤ n ∧ n ≤ 9223372036854775807
theorem R64.wf {n : Int} (h : R64 n) : (Lit.int .i64 n).wf = true := by
  unfold R64 at h
  simp [Lit.wf, IntKind.min, IntKind.max, IntKind.bits, IntKind.signed]
  omega
theorem R64.of {n : Int} (h : (Lit.int .i64 n).wf = true) : R64 n := by
  unfold R64
  simp [Lit.wf, IntKind.min, IntKind.max, IntKind.bits, IntKind.signed] at h
  omega
def fit (n : Int) : Bool := decide (-9223372036854775808 ≤ n ∧ n ≤ 9223372036854775807)
theorem fit_iff {n : Int} : fit n = true ↔ R64 n := by unfold fit R64; exact decide_eq_true_iff
theorem fit_not {n : Int} : fit n = false ↔ ¬ R64 n := by unfold fit R64; exact decide_eq_false_iff_not
/-- A number and whether it is there. -/
def told (n : Int) : Int × Bool := if fit n then (n, true) else (0, false)
def addS (a b : Int) : Int × Bool := told (a + b)
def subS (a b : Int) : Int × Bool := told (a - b)
def mulS (a b : Int) : Int × Bool := told (a * b)
def negS (a : Int) : Int × Bool := told (-a)
def divS (a b : Int) : Int := if b ≤ 0 then 0 else a / b
def gcdL (l : List Int) : Int := if l.all (fun n => decide (n ≠ -9223372036854775808)) then (l.foldl (fun g n => Nat.gcd g n.natAbs) 0 : Nat) else 0
theorem told_yes {n : Int} (h : R64 n) : told n = (n, true) := by unfold told; rw [if_pos (fit_iff.2 h)]
theorem told_no {n : Int} (h : ¬ R64 n) : told n = (0, false) := by unfold told; rw [if_neg (by rw [fit_iff]; exact h)]
theorem told_r (n : Int) : R64 (told n).1 := by
  unfold told; split
  · exact fit_iff.1 ‹_›
  · unfold R64; omega
theorem told_true {n : Int} (h : (told n).2 = true) : R64 n ∧ (told n).1 = n := by
  unfold told at h ⊢; split at h
  · rw [if_pos ‹_›]; exact ⟨fit_iff.1 ‹_›, rfl⟩
  · cases h
theorem wrap_fit {n : Int} (h : R64 n) : wrap64 n = n := by unfold R64 at h; unfold wrap64; omega
theorem wrap_r (n : Int) : R64 (wrap64 n) := by unfold R64 wrap64; omega
theorem wrap_not {n : Int} (h : ¬ R64 n) : wrap64 n ≠ n := fun e => h (e ▸ wrap_r n)

theorem wrap_i64_toNat (v : BitVec 64) : IntKind.i64.wrap (v.toNat : Int) = v.toInt := by
  rw [IntKind.wrap_i64, BitVec.toInt_eq_toNat_cond]
  have := v.isLt
  split <;> omega
theorem ofInt_toInt {x : Int} (h : R64 x) : (BitVec.ofInt 64 x).toInt = x := by
  unfold R64 at h
  rw [BitVec.toInt_ofInt]
  simp only [Int.bmod]
  split <;> omega
theorem bits_and_neg {x y : Int} (hx : R64 x) (hy : R64 y) : bits .and .i64 x y < 0 ↔ x < 0 ∧ y < 0 := by
  have e : bits .and .i64 x y = (BitVec.ofInt 64 x &&& BitVec.ofInt 64 y).toInt := wrap_i64_toNat _
  have m := @BitVec.msb_eq_toInt 64 (BitVec.ofInt 64 x &&& BitVec.ofInt 64 y)
  rw [BitVec.msb_and, BitVec.msb_eq_toInt, BitVec.msb_eq_toInt, ofInt_toInt hx, ofInt_toInt hy] at m
  rw [e, ← decide_eq_true_iff (p := _ < 0), ← m]
  simp
theorem bits_xor_neg {x y : Int} (hx : R64 x) (hy : R64 y) : bits .xor .i64 x y < 0 ↔ ¬ (x < 0 ↔ y < 0) := by
  have e : bits .xor .i64 x y = (BitVec.ofInt 64 x ^^^ BitVec.ofInt 64 y).toInt := wrap_i64_toNat _
  have m := @BitVec.msb_eq_toInt 64 (BitVec.ofInt 64 x ^^^ BitVec.ofInt 64 y)
  rw [BitVec.msb_xor, BitVec.msb_eq_toInt, BitVec.msb_eq_toInt, ofInt_toInt hx, ofInt_toInt hy] at m
  rw [e, ← decide_eq_true_iff (p := _ < 0), ← m]
  by_cases h1 : x < 0 <;> by_cases h2 : y < 0 <;> simp [h1, h2]
theorem bits_xor_r (x y : Int) : R64 (bits .xor .i64 x y) := by
  have e : bits .xor .i64 x y = (BitVec.ofInt 64 x ^^^ BitVec.ofInt 64 y).toInt := wrap_i64_toNat _
  rw [e]
  have h1 := BitVec.le_toInt (BitVec.ofInt 64 x ^^^ BitVec.ofInt 64 y)
  have h2 := BitVec.toInt_lt (x := BitVec.ofInt 64 x ^^^ BitVec.ofInt 64 y)
  unfold R64
  omega
theorem add_over {a b : Int} (ha : R64 a) (hb : R64 b) : bits .and .i64 (bits .xor .i64 a (wrap64 (a + b))) (bits .xor .i64 b (wrap64 (a + b))) < 0 ↔ ¬ R64 (a + b) := by
  rw [bits_and_neg (bits_xor_r _ _) (bits_xor_r _ _), bits_xor_neg ha (wrap_r _), bits_xor_neg hb (wrap_r _)]
  unfold R64 wrap64 at *
  omega
theorem sub_over {a b : Int} (ha : R64 a) (hb : R64 b) : bits .and .i64 (bits .xor .i64 a b) (bits .xor .i64 a (wrap64 (a - b))) < 0 ↔ ¬ R64 (a - b) := by
  rw [bits_and_neg (bits_xor_r _ _) (bits_xor_r _ _), bits_xor_neg ha hb, bits_xor_neg ha (wrap_r _)]
  unfold R64 wrap64 at *
  omega
/-- A number of 64 bits without a sign. -/
def U64 (n : Int) : Prop := 0 ≤ n ∧ n ≤ 18446744073709551615
theorem wrap_u (n : Int) : IntKind.u64.wrap n = n % 18446744073709551616 := IntKind.wrap_u64 n
theorem abs_u {a : Int} (ha : R64 a) : U64 (a.natAbs : Int) ∧ (a.natAbs : Int) ≤ 9223372036854775808 := by unfold R64 at ha; unfold U64; omega
theorem size_neg {a : Int} (ha : R64 a) (h : a < 0) : IntKind.u64.wrap (-IntKind.u64.wrap a) = a.natAbs := by rw [wrap_u, wrap_u]; unfold R64 at ha; omega
theorem size_pos {a : Int} (ha : R64 a) (h : ¬ a < 0) : IntKind.u64.wrap a = a.natAbs := by rw [wrap_u]; unfold R64 at ha; omega
theorem mul_hi (x y : Int) (hx : U64 x) (hy : U64 y) :
    (((x / 4294967296 * (y / 4294967296)) % 18446744073709551616 +
      (((x / 4294967296 * (y % 4294967296)) % 18446744073709551616 + ((x % 4294967296 * (y % 4294967296)) % 18446744073709551616) / 4294967296) % 18446744073709551616) / 4294967296) % 18446744073709551616 +
      (((((x / 4294967296 * (y % 4294967296)) % 18446744073709551616 + ((x % 4294967296 * (y % 4294967296)) % 18446744073709551616) / 4294967296) % 18446744073709551616) % 4294967296 +
        (x % 4294967296 * (y / 4294967296)) % 18446744073709551616) % 18446744073709551616) / 4294967296) % 18446744073709551616 = x * y / 18446744073709551616 := by
  unfold U64 at hx hy
  exact mul64_arith x y (by omega) (by omega) (by omega) (by omega)
theorem abs_mul (a b : Int) : ((a.natAbs : Int) * (b.natAbs : Int)) = ((a * b).natAbs : Int) := by rw [Int.natAbs_mul]; simp
/-- The product, told by its size and its sign. -/
theorem mul_parts {a b : Int} (ha : R64 a) (hb : R64 b) (neg : Bool) (hn : neg = ((decide (a < 0)) != (decide (b < 0)))) :
    ∃ m : Nat, ((a.natAbs : Int) * (b.natAbs : Int)) = (m : Int) ∧ (a * b = (m : Int) ∨ a * b = -(m : Int)) ∧ (neg = true → a * b = -(m : Int)) ∧ (neg = false → a * b = (m : Int)) := by
  refine ⟨a.natAbs * b.natAbs, by simp, ?_, ?_, ?_⟩
  · rcases Int.natAbs_eq (a * b) with h | h
    · left; rw [h, Int.natAbs_mul]
    · right; rw [h, Int.natAbs_mul]
  · intro h
    rw [hn] at h
    rcases Int.lt_or_le a 0 with h1 | h1 <;> rcases Int.lt_or_le b 0 with h2 | h2
    · simp [h1, h2] at h
    · obtain ⟨p, rfl⟩ : ∃ p : Nat, a = -(p : Int) := ⟨a.natAbs, by omega⟩
      obtain ⟨q, rfl⟩ := Int.eq_ofNat_of_zero_le h2
      simp [Int.neg_mul]
    · obtain ⟨p, rfl⟩ := Int.eq_ofNat_of_zero_le h1
      obtain ⟨q, rfl⟩ : ∃ q : Nat, b = -(q : Int) := ⟨b.natAbs, by omega⟩
      simp [Int.mul_neg]
    · simp [Int.not_lt.2 h1, Int.not_lt.2 h2] at h
  · intro h
    rw [hn] at h
    rcases Int.lt_or_le a 0 with h1 | h1 <;> rcases Int.lt_or_le b 0 with h2 | h2
    · obtain ⟨p, rfl⟩ : ∃ p : Nat, a = -(p : Int) := ⟨a.natAbs, by omega⟩
      obtain ⟨q, rfl⟩ : ∃ q : Nat, b = -(q : Int) := ⟨b.natAbs, by omega⟩
      rw [Int.neg_mul_neg]; simp
    · simp [h1, Int.not_lt.2 h2] at h
    · simp [h2, Int.not_lt.2 h1] at h
    · obtain ⟨p, rfl⟩ := Int.eq_ofNat_of_zero_le h1
      obtain ⟨q, rfl⟩ := Int.eq_ofNat_of_zero_le h2
      simp
theorem ediv_of {a b k : Int} (hb : 0 < b) (h1 : k * b ≤ a) (h2 : a < (k + 1) * b) : a / b = k := by
  have h3 := (Int.le_ediv_iff_mul_le hb).2 h1
  have h4 := (Int.ediv_lt_iff_lt_mul hb).2 h2
  omega
/-- Go's quotient, brought down. -/
theorem div_down {a b : Int} (ha : R64 a) (hb : 0 < b) : R64 (a.tdiv b) ∧ R64 (a.tdiv b * b) ∧ (a < 0 → a.tdiv b * b ≠ a → a / b = a.tdiv b - 1) ∧ ((¬ a < 0 ∨ a.tdiv b * b = a) → a / b = a.tdiv b) ∧ R64 (a / b) := by
  rcases Int.lt_or_le a 0 with h | h
  · obtain ⟨p, rfl⟩ : ∃ p : Nat, a = -(p : Int) := ⟨a.natAbs, by omega⟩
    have e : (-(p : Int)).tdiv b = -((p : Int) / b) := by rw [Int.neg_tdiv, Int.tdiv_eq_ediv_of_nonneg (by omega)]
    rw [e]
    have hq0 : 0 ≤ (p : Int) / b := Int.ediv_nonneg (by omega) (by omega)
    have hq1 : (p : Int) / b * b ≤ p := Int.ediv_mul_le _ (by omega)
    have hq2 : (p : Int) < ((p : Int) / b + 1) * b := Int.lt_ediv_add_one_mul_self _ hb
    have hq3 : (p : Int) / b ≤ p := Int.ediv_le_self _ (by omega)
    generalize (p : Int) / b = q at *
    have e2 : -q * b = -(q * b) := Int.neg_mul _ _
    have e3 : (q + 1) * b = q * b + b := by rw [Int.add_mul, Int.one_mul]
    have k0 : 0 ≤ q * b := Int.mul_nonneg hq0 (by omega)
    have c1 : -q * b ≠ -(p : Int) → -(p : Int) / b = -q - 1 := by
      intro hne
      refine ediv_of hb ?_ ?_
      · have : (-q - 1) * b = -(q * b) - b := by rw [Int.sub_mul, Int.neg_mul, Int.one_mul]
        omega
      · have : (-q - 1 + 1) * b = -(q * b) := by rw [Int.sub_add_cancel, Int.neg_mul]
        omega
    have c2 : -q * b = -(p : Int) → -(p : Int) / b = -q := by
      intro he
      refine ediv_of hb (by omega) ?_
      have : (-q + 1) * b = -(q * b) + b := by rw [Int.add_mul, Int.neg_mul, Int.one_mul]
      omega
    unfold R64 at *
    refine ⟨by omega, by omega, fun _ => c1, fun h => c2 (by rcases h with h | h; omega; exact h), ?_⟩
    by_cases hh : -q * b = -(p : Int)
    · rw [c2 hh]; omega
    · rw [c1 hh]
      by_cases hq : q = p
      · subst hq
        exfalso
        by_cases hb1 : b = 1
        · subst hb1; omega
        · have := Int.mul_le_mul_of_nonneg_left (show 2 ≤ b by omega) (show 0 ≤ (p : Int) by omega)
          have hp : (p : Int) = 0 := by omega
          omega
      · omega
  · rw [Int.tdiv_eq_ediv_of_nonneg h]
    have hq0 : 0 ≤ a / b := Int.ediv_nonneg h (by omega)
    have hq1 : a / b * b ≤ a := Int.ediv_mul_le _ (by omega)
    have hq3 : a / b ≤ a := Int.ediv_le_self _ h
    have k0 : 0 ≤ a / b * b := Int.mul_nonneg hq0 (by omega)
    generalize a / b * b = m at *
    unfold R64 at *
    refine ⟨by omega, by omega, fun h => by omega, fun _ => rfl, by omega⟩
theorem low_b {z : Int} (h0 : 0 ≤ z) (h1 : z < 18446744073709551616) : bits .and .u64 z 4294967295 = z % 4294967296 := and_low32 z h0 h1
theorem mul_yes {a b : Int} {m : Nat} (hm : (a.natAbs : Int) * (b.natAbs : Int) = m) (ha : R64 a) (hb : R64 b) :
    (m : Int) / 18446744073709551616 = 0 ↔ (m : Int) ≤ 18446744073709551615 := by omega
theorem tmod_neg {a b : Int} (hb : 0 < b) : a.tmod b < 0 ↔ a < 0 ∧ a.tdiv b * b ≠ a := by
  have h1 := Int.tmod_add_tdiv_mul a b
  have h2 : a < 0 → a.tmod b ≤ 0 := fun h => by
    have := Int.tmod_nonneg (a := -a) b (by omega)
    rw [Int.neg_tmod] at this
    omega
  have h3 : 0 ≤ a → 0 ≤ a.tmod b := fun h => Int.tmod_nonneg _ h
  omega
theorem mul_split {u v : Int} (hu : 0 ≤ u ∧ u ≤ 9223372036854775808) (hv : 0 ≤ v ∧ v ≤ 9223372036854775808) :
    ∃ uh ul vh vl p p' q r : Int, u / 4294967296 = uh ∧ u % 4294967296 = ul ∧ v / 4294967296 = vh ∧ v % 4294967296 = vl ∧ uh * vl = p ∧ vh * ul = p' ∧ ul * vl = q ∧ u * v = r * 18446744073709551616 + (p + p') * 4294967296 + q ∧
      0 ≤ p ∧ p ≤ 9223372036854775808 ∧ 0 ≤ p' ∧ p' ≤ 9223372036854775808 ∧ 0 ≤ q ∧ q < 18446744073709551616 ∧ (uh = 0 → r = 0 ∧ p = 0) ∧ (vh = 0 → r = 0 ∧ p' = 0) ∧ (¬ uh = 0 → ¬ vh = 0 → 1 ≤ r) := by
  refine ⟨u / 4294967296, u % 4294967296, v / 4294967296, v % 4294967296, _, _, _, (u / 4294967296) * (v / 4294967296), rfl, rfl, rfl, rfl, rfl, rfl, rfl, ?_, ?_⟩
  · have e1 : u = u / 4294967296 * 4294967296 + u % 4294967296 := by omega
    have e2 : v = v / 4294967296 * 4294967296 + v % 4294967296 := by omega
    generalize u / 4294967296 = a at *
    generalize u % 4294967296 = b at *
    generalize v / 4294967296 = c at *
    generalize v % 4294967296 = d at *
    subst e1; subst e2
    rw [Int.add_mul, Int.mul_add, Int.mul_add]
    have f1 : a * 4294967296 * (c * 4294967296) = a * c * 18446744073709551616 := by rw [Int.mul_assoc, Int.mul_left_comm 4294967296 c, ← Int.mul_assoc]; rfl
    have f2 : a * 4294967296 * d = a * d * 4294967296 := by rw [Int.mul_assoc, Int.mul_comm 4294967296 d, ← Int.mul_assoc]
    have f3 : b * (c * 4294967296) = c * b * 4294967296 := by rw [← Int.mul_assoc, Int.mul_comm b c]
    rw [f1, f2, f3]; omega
  · have a0 : 0 ≤ u / 4294967296 ∧ u / 4294967296 ≤ 2147483648 := by omega
    have b0 : 0 ≤ u % 4294967296 ∧ u % 4294967296 ≤ 4294967295 := by omega
    have c0 : 0 ≤ v / 4294967296 ∧ v / 4294967296 ≤ 2147483648 := by omega
    have d0 : 0 ≤ v % 4294967296 ∧ v % 4294967296 ≤ 4294967295 := by omega
    generalize u / 4294967296 = a at *
    generalize u % 4294967296 = b at *
    generalize v / 4294967296 = c at *
    generalize v % 4294967296 = d at *
    have g1 := Int.mul_le_mul a0.2 d0.2 d0.1 (by omega)
    have g2 := Int.mul_le_mul c0.2 b0.2 b0.1 (by omega)
    have g3 := Int.mul_le_mul b0.2 d0.2 d0.1 (by omega)
    have h1 := Int.mul_nonneg a0.1 d0.1
    have h2 := Int.mul_nonneg c0.1 b0.1
    have h3 := Int.mul_nonneg b0.1 d0.1
    refine ⟨h1, by omega, h2, by omega, h3, by omega, ?_, ?_, ?_⟩
    · rintro rfl; simp
    · rintro rfl; simp
    · intro n1 n2
      have := Int.mul_le_mul (show (1 : Int) ≤ a by omega) (show (1 : Int) ≤ c by omega) (by omega) a0.1
      omega
def notMin (n : Int) : Bool := decide (n ≠ -9223372036854775808)
def gcdF (l : List Int) : Nat := l.foldl (fun g n => Nat.gcd g n.natAbs) 0
theorem gcdL_yes {l : List Int} (h : l.all notMin = true) : gcdL l = (gcdF l : Nat) := by unfold gcdL; exact if_pos h
theorem gcdL_no {l : List Int} {k : Nat} (hk : k < l.length) (h : l[k] = -9223372036854775808) : gcdL l = 0 := by
  unfold gcdL
  refine if_neg fun ha => ?_
  have := List.all_eq_true.1 ha l[k] (List.getElem_mem hk)
  simp [h] at this
theorem gcd_fold_le (l : List Int) (h : l.all notMin = true) (hr : ∀ n ∈ l, R64 n) : ∀ g : Nat, (g : Int) ≤ 9223372036854775807 → ((l.foldl (fun g n => Nat.gcd g n.natAbs) g : Nat) : Int) ≤ 9223372036854775807 := by
  induction l with
  | nil => exact fun g hg => hg
  | cons n l ih =>
    intro g hg
    simp only [List.all_cons, Bool.and_eq_true] at h
    refine ih h.2 (fun m hm => hr m (List.mem_cons_of_mem _ hm)) _ ?_
    have h1 := hr n List.mem_cons_self
    have h2 : n ≠ -9223372036854775808 := by simpa [notMin] using h.1
    unfold R64 at h1
    show ((Nat.gcd g n.natAbs : Nat) : Int) ≤ _
    rcases Nat.eq_zero_or_pos n.natAbs with h0 | h0
    · rw [h0, Nat.gcd_zero_right]; exact hg
    · have := Nat.gcd_le_right g h0
      omega
theorem take_snoc {α : Type} (l : List α) (k : Nat) (h : k < l.length) : l.take (k + 1) = l.take k ++ [l[k]] := List.take_succ_eq_append_getElem h
theorem gcdF_snoc (l : List Int) (k : Nat) (h : k < l.length) : gcdF (l.take (k + 1)) = Nat.gcd (gcdF (l.take k)) l[k].natAbs := by
  rw [take_snoc l k h]; unfold gcdF; rw [List.foldl_append]; rfl
theorem all_take {α : Type} {l : List α} {p : α → Bool} (h : l.all p = true) (k : Nat) : (l.take k).all p = true := by
  rw [List.all_eq_true] at *; exact fun x hx => h x (List.mem_of_mem_take hx)
theorem gcdF_r (l : List Int) (h : l.all notMin = true) (hr : ∀ n ∈ l, R64 n) (k : Nat) : R64 (gcdF (l.take k) : Nat) := by
  have := gcd_fold_le (l.take k) (all_take h k) (fun n hn => hr n (List.mem_of_mem_take hn)) 0 (by omega)
  unfold R64 gcdF
  omega
end Go.Proofs.YtmflfcbebeikcaaGreatDoor.Q

namespace Go.Proofs.YtmflfcbebeikcaaGreatDoor.Q
open Go.RowKit
variable [Amb]
theorem PIdx.map' {α β : Type} {l : List α} {f : α → β} {z : Int} {i : Nat} {x : α} {K : β → Prop} (hz : z = i) (h : l[i]? = some x) (k : K (f x)) : PIdx (l.map f) z K := by subst hz; exact PIdx.map h k
theorem PIdx.at' {α : Type} {l : List α} {z : Int} {i : Nat} {x : α} {K : α → Prop} (hz : z = i) (h : l[i]? = some x) (k : K x) : PIdx l z K := by subst hz; exact PIdx.at h k
theorem wrap_nat (k : Nat) (h : k < 4611686018427387904) : IntKind.i64.wrap ((k : Int) + 1) = ((k + 1 : Nat) : Int) := by
  rw [IntKind.wrap_i64]; omega
theorem wrap_in {x : Int} (h : R64 x) : IntKind.i64.wrap x = x := by unfold R64 at h; rw [IntKind.wrap_i64]; omega
theorem get_at {α : Type} {l : List α} {k : Nat} (h : k < l.length) : l[k]? = some l[k] := List.getElem?_eq_getElem h
/-- The function's one result; nothing lent. -/
theorem fin1 {r r' : V} (h : r = r') : r = r' ∧ ([] : List Ob) = [] := ⟨h, rfl⟩
theorem dint {k : IntKind} {a b : Int} (h : a = b) : V.d (.int k a) = V.d (.int k b) := by rw [h]
theorem sint {k : IntKind} {a b : Int} (h : a = b) : some (V.d (.int k a)) = some (V.d (.int k b)) := by rw [h]
theorem sv {x y : V} (h : x = y) : some x = some y := by rw [h]
theorem dbool {a b : Bool} (h : a = b) : V.d (.bool a) = V.d (.bool b) := by rw [h]
theorem tup2 {a b c d : V} (h : a = c) (k : b = d) : V.tup [a, b] = V.tup [c, d] := by rw [h, k]
theorem tup3 {a b c d e f : V} (h : a = d) (k : b = e) (l : c = f) : V.tup [a, b, c] = V.tup [d, e, f] := by rw [h, k, l]
theorem lk_some {ρ : Env} {t : Nat} {x y : V} (h : lk ρ t = some x) (e : x = y) : lk ρ t = some y := by rw [h, e]
/-- A number and whether it is there. -/
def ib (p : Int × Bool) : V := .tup [.d (.int .i64 p.1), .d (.bool p.2)]
theorem ib_yes {n : Int} (h : R64 n) : ib (told n) = .tup [.d (.int .i64 n), .d (.bool true)] := by rw [told_yes h]; rfl
theorem ib_no {n : Int} (h : ¬ R64 n) : ib (told n) = .tup [.d (.int .i64 0), .d (.bool false)] := by rw [told_no h]; rfl
/-- A number. -/
abbrev iv (n : Int) : V := .d (.int .i64 n)
end Go.Proofs.YtmflfcbebeikcaaGreatDoor.Q

namespace Go.Proofs.YtmflfcbebeikcaaGreatDoor.Q
open Go.RowKit
abbrev Str := List UInt8
abbrev sv' (s : Str) : V := .d (.str s)
structure Ex where
  op : Int
  mon : Str
  name : Str
  n : Int
  kids : List Ex
  pl : Int
structure St where
  kind : Int
  mon : Str
  name : Str
  n : Int
  e : Ex
  blocks : List (List St)
  pl : Int
structure Vr where
  name : Str
  type : Int
  lo : Int
  hi : Int
  init : Int
  pl : Int
structure Mt where
  name : Str
  body : List St
  pl : Int
structure Mo where
  name : Str
  vars : List Vr
  methods : List Mt
  pl : Int
structure Ro where
  name : Str
  star : Bool
  count : Int
  body : List St
  pl : Int
structure Pg where
  mons : List Mo
  roles : List Ro
mutual
def Ex.e : Ex → List D
  | ⟨op, mon, name, n, kids, pl⟩ => [.int .i64 op, .str mon, .str name, .int .i64 n, .sl (Ex.es kids), .int .i64 pl]
def Ex.es : List Ex → List (List D)
  | [] => []
  | x :: r => x.e :: Ex.es r
end
theorem Ex.es_map : ∀ l : List Ex, Ex.es l = l.map Ex.e
  | [] => by simp [Ex.es]
  | x :: r => by rw [Ex.es, Ex.es_map r]; rfl
theorem Ex.e_eq (x : Ex) : x.e = [.int .i64 x.op, .str x.mon, .str x.name, .int .i64 x.n, .sl (x.kids.map Ex.e), .int .i64 x.pl] := by
  cases x; rw [Ex.e, Ex.es_map]
mutual
def St.c : St → List D
  | ⟨kind, mon, name, n, e, blocks, pl⟩ => [.int .i64 kind, .str mon, .str name, .int .i64 n] ++ e.e ++ [.sl (St.bs blocks), .int .i64 pl]
def St.bs : List (List St) → List (List D)
  | [] => []
  | b :: r => [.sl (St.cs b)] :: St.bs r
def St.cs : List St → List (List D)
  | [] => []
  | x :: r => x.c :: St.cs r
end
/-- A block, as a cell. -/
def blk (b : List St) : List D := [.sl (b.map St.c)]
theorem St.cs_map : ∀ l : List St, St.cs l = l.map St.c
  | [] => by simp [St.cs]
  | x :: r => by rw [St.cs, St.cs_map r]; rfl
theorem St.bs_map : ∀ l : List (List St), St.bs l = l.map blk
  | [] => by simp [St.bs]
  | x :: r => by rw [St.bs, St.bs_map r, St.cs_map]; rfl
theorem St.c_eq (x : St) : x.c = [.int .i64 x.kind, .str x.mon, .str x.name, .int .i64 x.n] ++ x.e.e ++ [.sl (x.blocks.map blk), .int .i64 x.pl] := by
  cases x; rw [St.c, St.bs_map]
def Vr.c (x : Vr) : List D := [.str x.name, .int .i64 x.type, .int .i64 x.lo, .int .i64 x.hi, .int .i64 x.init, .int .i64 x.pl]
def Mt.c (x : Mt) : List D := [.str x.name, .sl (x.body.map St.c), .int .i64 x.pl]
def Mo.c (x : Mo) : List D := [.str x.name, .sl (x.vars.map Vr.c), .sl (x.methods.map Mt.c), .int .i64 x.pl]
def Ro.c (x : Ro) : List D := [.str x.name, .bool x.star, .int .i64 x.count, .sl (x.body.map St.c), .int .i64 x.pl]
def Pg.v (x : Pg) : V := .agg [.d (.sl (x.mons.map Mo.c)), .d (.sl (x.roles.map Ro.c))]
def Ex.cells (x : Ex) : List V := [iv x.op, sv' x.mon, sv' x.name, iv x.n, .d (.sl (x.kids.map Ex.e)), iv x.pl]
/-- An expression's cells. -/
def Ex.row (x : Ex) : List D := [.int .i64 x.op, .str x.mon, .str x.name, .int .i64 x.n, .sl (x.kids.map Ex.e), .int .i64 x.pl]
theorem Ex.e_row (x : Ex) : x.e = x.row := x.e_eq
def Ex.v (x : Ex) : V := .agg [iv x.op, sv' x.mon, sv' x.name, iv x.n, .d (.sl (x.kids.map Ex.e)), iv x.pl]
theorem PIdx.ex [Amb] {l : List Ex} {k : Nat} {K : List D → Prop} (h : k < l.length) (c : K (Ex.row l[k])) : PIdx (l.map Ex.e) (k : Int) K := PIdx.map (get_at h) (by rw [Ex.e_row]; exact c)
def St.v (x : St) : V := .agg [iv x.kind, sv' x.mon, sv' x.name, iv x.n, iv x.e.op, sv' x.e.mon, sv' x.e.name, iv x.e.n, .d (.sl (x.e.kids.map Ex.e)), iv x.e.pl, .d (.sl (x.blocks.map blk)), iv x.pl]
def Vr.v (x : Vr) : V := .agg [sv' x.name, iv x.type, iv x.lo, iv x.hi, iv x.init, iv x.pl]
def Mt.v (x : Mt) : V := .agg [sv' x.name, .d (.sl (x.body.map St.c)), iv x.pl]
def Ro.v (x : Ro) : V := .agg [sv' x.name, .d (.bool x.star), iv x.count, .d (.sl (x.body.map St.c)), iv x.pl]
theorem RL_vr (l : List Vr) : RL (l.map Vr.c) 6 := fun r hr => by obtain ⟨t, _, rfl⟩ := List.mem_map.1 hr; rfl
theorem RL_mt (l : List Mt) : RL (l.map Mt.c) 3 := fun r hr => by obtain ⟨t, _, rfl⟩ := List.mem_map.1 hr; rfl
theorem RL_mo (l : List Mo) : RL (l.map Mo.c) 4 := fun r hr => by obtain ⟨t, _, rfl⟩ := List.mem_map.1 hr; rfl
theorem RL_ro (l : List Ro) : RL (l.map Ro.c) 5 := fun r hr => by obtain ⟨t, _, rfl⟩ := List.mem_map.1 hr; rfl
def Mo.v (x : Mo) : V := .agg [sv' x.name, .d (.sl (x.vars.map Vr.c)), .d (.sl (x.methods.map Mt.c)), iv x.pl]
def scell (s : Str) : List D := [.str s]
end Go.Proofs.YtmflfcbebeikcaaGreatDoor.Q
