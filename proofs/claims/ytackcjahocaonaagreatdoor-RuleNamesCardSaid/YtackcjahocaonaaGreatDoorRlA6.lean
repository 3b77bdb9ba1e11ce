/- A part of a proof: rules for reading Go code as code over plain values, and what follows for this program. Its conditions stand in each statement. -/
import Derived.Test.YtackcjahocaonaaGreatDoorRlVals
import Derived.Test.YtackcjahocaonaaGreatDoorRlA5
section
namespace Go.Proofs
open Go.Ab
theorem ev_a24 : evTo [(86, argsMk, objsMk, endsMk)] 24 [letters, ruleOpt, .str [97,112,97,112,97]] (.tup [.lst [.str [97,112,97,112,97], .str [97,112,97,98,97], .str [97,98,97,112,97], .str [97,98,97,98,97]], .int .i64 0]) = true := by kernel_rfl
end Go.Proofs
end
