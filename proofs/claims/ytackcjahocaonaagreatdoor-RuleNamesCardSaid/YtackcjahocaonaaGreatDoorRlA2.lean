/- A part of a proof: rules for reading Go code as code over plain values, and what follows for this program. Its conditions stand in each statement. -/
import Derived.Test.YtackcjahocaonaaGreatDoorRlVals
section
namespace Go.Proofs
open Go.Ab
theorem ev_m1 : evTo [] 36 [.str [101,58,32,126,32,62,32,105,32,47,32,112,32,95,32,123,112,124,35,125], .str [97,112,112]] (.str [97,112,105,112,105]) = true := by kernel_rfl
theorem ev_m2 : evTo [] 36 [.str [100,58,32,104,32,62,62,32,126,32,47,32,126,32,95,32,126], .str [104,97,104,104,97]] (.str [97,97]) = true := by kernel_rfl
theorem ev_m3 : evTo [] 36 [.str [101,58,32,126,32,62,32,105,32,47,32,112,32,95,32,123,112,124,35,125], .str []] (.str []) = true := by kernel_rfl
theorem ev_m4 : evTo [] 36 [.str [120,58,32,112,112,32,62,32,98,32,47,32,126,32,95,32,126], .str [112,112,112]] (.str [98,112]) = true := by kernel_rfl
end Go.Proofs
end
