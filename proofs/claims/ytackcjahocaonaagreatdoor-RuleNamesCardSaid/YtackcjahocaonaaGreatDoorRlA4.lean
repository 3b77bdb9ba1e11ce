/- A part of a proof: rules for reading Go code as code over plain values, and what follows for this program. Its conditions stand in each statement. -/
import Derived.Test.YtackcjahocaonaaGreatDoorRlVals
section
namespace Go.Proofs
open Go.Ab
theorem ev_m9 : evTo [] 36 [.str [108,101,110,105,115,58,32,112,32,62,32,48,91,43,118,111,105,99,101,100,93,32,47,32,91,43,118,111,119,101,108,93,32,95,32,91,43,118,111,119,101,108,93], .str [97,112,97,112,97]] (.str [97,98,97,98,97]) = true := by kernel_rfl
theorem ev_m10 : evTo [] 36 [.str [108,101,110,105,115,58,32,112,32,62,32,48,91,43,118,111,105,99,101,100,93,32,47,32,91,43,118,111,119,101,108,93,32,95,32,91,43,118,111,119,101,108,93], .str [112,97,112]] (.str [112,97,112]) = true := by kernel_rfl
theorem ev_a26 : evTo [] 26 [letters, ruleLenis, .str [97,112,97,112,97]] (.tup [.lst [.agg [.int .i64 1, .int .i64 2], .agg [.int .i64 3, .int .i64 4]], .int .i64 0]) = true := by kernel_rfl
end Go.Proofs
end
