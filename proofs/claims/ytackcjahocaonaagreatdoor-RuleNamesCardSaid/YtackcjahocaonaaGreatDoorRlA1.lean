/- A part of a proof: rules for reading Go code as code over plain values, and what follows for this program. Its conditions stand in each statement. -/
import Derived.Test.YtackcjahocaonaaGreatDoorRlVals
section
namespace Go.Proofs
open Go.Ab
theorem ev_l37 : evTo [] 37 [] (letters) = true := by kernel_rfl
theorem ev_r1 : evTo [] 38 [.str [108,101,110,105,115,58,32,112,32,62,63,32,48,91,43,118,111,105,99,101,100,93,32,47,32,91,43,118,111,119,101,108,93,32,95,32,91,43,118,111,119,101,108,93]] (ruleOpt) = true := by kernel_rfl
theorem ev_r2 : evTo [] 38 [.str [58,32,112,32,62,32,98,32,47,32,126,32,95,32,126]] (ruleBare) = true := by kernel_rfl
theorem ev_r3 : evTo [] 38 [.str [108,101,110,105,115,58,32,112,32,62,32,48,91,43,118,111,105,99,101,100,93,32,47,32,91,43,118,111,119,101,108,93,32,95,32,91,43,118,111,119,101,108,93]] (ruleLenis) = true := by kernel_rfl
theorem ev_w1 : evTo [] 39 [.str [120,58,32,112,32,62,32,49,32,47,32,126,32,95,32,126], .int .i64 7] (.bool true) = true := by kernel_rfl
theorem ev_w2 : evTo [] 39 [.str [120,58,32,112,32,61,32,98,32,47,32,126,32,95,32,126], .int .i64 5] (.bool true) = true := by kernel_rfl
theorem ev_w3 : evTo [] 39 [.str [120,58,32,112,32,62,32,98,32,47,32,126,32,95], .int .i64 14] (.bool true) = true := by kernel_rfl
theorem ev_w4 : evTo [] 39 [.str [120,58,32,126,32,62,32,126,32,47,32,126,32,95,32,126], .int .i64 0] (.bool true) = true := by kernel_rfl
theorem ev_a15a : evTo [] 15 [letters, .lst [.int .i32 112], .agg [.int .i32 0, .int .i64 0, .int .u32 1, .int .u32 0]] (.tup [.int .i32 98, .int .i64 0]) = true := by kernel_rfl
theorem ev_a15b : evTo [] 15 [letters, .nilS, .agg [.int .i32 0, .int .i64 0, .int .u32 0, .int .u32 0]] (.tup [.int .i32 0, .int .i64 70]) = true := by kernel_rfl
theorem ev_a11 : evTo [] 11 [letters, ruleBare] (.tup [.str [58,32,112,32,62,32,98,32,47,32,126,32,95,32,126], .int .i64 0]) = true := by kernel_rfl
end Go.Proofs
end
