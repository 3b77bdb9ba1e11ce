/- A part of a proof: rules for reading Go code as code over plain values, and what follows for this program. Its conditions stand in each statement. -/
import Derived.Test.YtackcjahocaonaaGreatDoorRlRun
section
namespace Go.Proofs
open Go.Ab
def ruleOpt : AV := .agg [.str [108,101,110,105,115], .lst [.agg [.int .i32 112, .int .u32 0, .int .u32 0]], .lst [.agg [.int .i32 0, .int .i64 0, .int .u32 1, .int .u32 0]], .lst [.agg [.int .u8 3, .int .i32 0, .int .u32 4, .int .u32 0, .zS]], .lst [.agg [.int .u8 3, .int .i32 0, .int .u32 4, .int .u32 0, .zS]], .int .u8 1, .bool true]
def ruleBare : AV := .agg [.str [], .lst [.agg [.int .i32 112, .int .u32 0, .int .u32 0]], .lst [.agg [.int .i32 98, .int .i64 0, .int .u32 0, .int .u32 0]], .lst [.agg [.int .u8 1, .int .i32 0, .int .u32 0, .int .u32 0, .zS]], .lst [.agg [.int .u8 1, .int .i32 0, .int .u32 0, .int .u32 0, .zS]], .int .u8 1, .bool false]
def ruleLenis : AV := .agg [.str [108,101,110,105,115], .lst [.agg [.int .i32 112, .int .u32 0, .int .u32 0]], .lst [.agg [.int .i32 0, .int .i64 0, .int .u32 1, .int .u32 0]], .lst [.agg [.int .u8 3, .int .i32 0, .int .u32 4, .int .u32 0, .zS]], .lst [.agg [.int .u8 3, .int .i32 0, .int .u32 4, .int .u32 0, .zS]], .int .u8 1, .bool false]
end Go.Proofs
end
