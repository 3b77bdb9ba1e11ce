/- A part of a proof: rules for reading Go code as code over plain values, and what follows for this program. Its conditions stand in each statement. -/
import Derived.Test.YtackcjahocaonaaGreatDoorRlVals
section
namespace Go.Proofs
open Go.Ab
theorem ev_m5 : evTo [] 36 [.str [120,58,32,112,112,32,62,62,32,98,32,47,32,126,32,95,32,126], .str [112,112,112]] (.str [98,112]) = true := by kernel_rfl
theorem ev_m6 : evTo [] 36 [.str [120,58,32,112,112,32,60,60,32,98,32,47,32,126,32,95,32,126], .str [112,112,112]] (.str [112,98]) = true := by kernel_rfl
theorem ev_m7 : evTo [] 36 [.str [120,58,32,97,32,62,62,32,105,32,47,32,123,35,124,105,125,32,95,32,126], .str [97,97,97]] (.str [105,105,105]) = true := by kernel_rfl
theorem ev_m8 : evTo [] 36 [.str [120,58,32,97,32,62,32,105,32,47,32,123,35,124,105,125,32,95,32,126], .str [97,97,97]] (.str [105,97,97]) = true := by kernel_rfl
end Go.Proofs
end
