/- A part of a proof: rules for reading Go code as code over plain values, and what follows for this program. Its conditions stand in each statement. -/
import Derived.Test.YtackcjahocaonaaGreatDoorRlA1
import Derived.Test.YtackcjahocaonaaGreatDoorRlA2
import Derived.Test.YtackcjahocaonaaGreatDoorRlA3
import Derived.Test.YtackcjahocaonaaGreatDoorRlA4
import Derived.Test.YtackcjahocaonaaGreatDoorRlA5
import Derived.Test.YtackcjahocaonaaGreatDoorRlA6
section
set_option maxRecDepth 100000
namespace Go.Proofs
open Go.Ab
def knownM : Known := [(86, argsMk, objsMk, endsMk)]
theorem knownM_ok : KnownOk knownM := known_cons ev_mk known_nil
def knownA : Known := [(37, [], [], [(.ret (letters), none)]),
  (38, [.str [108,101,110,105,115,58,32,112,32,62,63,32,48,91,43,118,111,105,99,101,100,93,32,47,32,91,43,118,111,119,101,108,93,32,95,32,91,43,118,111,119,101,108,93]], [], [(.ret (ruleOpt), none)]),
  (38, [.str [58,32,112,32,62,32,98,32,47,32,126,32,95,32,126]], [], [(.ret (ruleBare), none)]),
  (38, [.str [108,101,110,105,115,58,32,112,32,62,32,48,91,43,118,111,105,99,101,100,93,32,47,32,91,43,118,111,119,101,108,93,32,95,32,91,43,118,111,119,101,108,93]], [], [(.ret (ruleLenis), none)]),
  (39, [.str [120,58,32,112,32,62,32,49,32,47,32,126,32,95,32,126], .int .i64 7], [], [(.ret (.bool true), none)]),
  (39, [.str [120,58,32,112,32,61,32,98,32,47,32,126,32,95,32,126], .int .i64 5], [], [(.ret (.bool true), none)]),
  (39, [.str [120,58,32,112,32,62,32,98,32,47,32,126,32,95], .int .i64 14], [], [(.ret (.bool true), none)]),
  (39, [.str [120,58,32,126,32,62,32,126,32,47,32,126,32,95,32,126], .int .i64 0], [], [(.ret (.bool true), none)]),
  (15, [letters, .lst [.int .i32 112], .agg [.int .i32 0, .int .i64 0, .int .u32 1, .int .u32 0]], [], [(.ret (.tup [.int .i32 98, .int .i64 0]), none)]),
  (15, [letters, .nilS, .agg [.int .i32 0, .int .i64 0, .int .u32 0, .int .u32 0]], [], [(.ret (.tup [.int .i32 0, .int .i64 70]), none)]),
  (11, [letters, ruleBare], [], [(.ret (.tup [.str [58,32,112,32,62,32,98,32,47,32,126,32,95,32,126], .int .i64 0]), none)]),
  (36, [.str [101,58,32,126,32,62,32,105,32,47,32,112,32,95,32,123,112,124,35,125], .str [97,112,112]], [], [(.ret (.str [97,112,105,112,105]), none)]),
  (36, [.str [100,58,32,104,32,62,62,32,126,32,47,32,126,32,95,32,126], .str [104,97,104,104,97]], [], [(.ret (.str [97,97]), none)]),
  (36, [.str [101,58,32,126,32,62,32,105,32,47,32,112,32,95,32,123,112,124,35,125], .str []], [], [(.ret (.str []), none)]),
  (36, [.str [120,58,32,112,112,32,62,32,98,32,47,32,126,32,95,32,126], .str [112,112,112]], [], [(.ret (.str [98,112]), none)]),
  (36, [.str [120,58,32,112,112,32,62,62,32,98,32,47,32,126,32,95,32,126], .str [112,112,112]], [], [(.ret (.str [98,112]), none)]),
  (36, [.str [120,58,32,112,112,32,60,60,32,98,32,47,32,126,32,95,32,126], .str [112,112,112]], [], [(.ret (.str [112,98]), none)]),
  (36, [.str [120,58,32,97,32,62,62,32,105,32,47,32,123,35,124,105,125,32,95,32,126], .str [97,97,97]], [], [(.ret (.str [105,105,105]), none)]),
  (36, [.str [120,58,32,97,32,62,32,105,32,47,32,123,35,124,105,125,32,95,32,126], .str [97,97,97]], [], [(.ret (.str [105,97,97]), none)]),
  (36, [.str [108,101,110,105,115,58,32,112,32,62,32,48,91,43,118,111,105,99,101,100,93,32,47,32,91,43,118,111,119,101,108,93,32,95,32,91,43,118,111,119,101,108,93], .str [97,112,97,112,97]], [], [(.ret (.str [97,98,97,98,97]), none)]),
  (36, [.str [108,101,110,105,115,58,32,112,32,62,32,48,91,43,118,111,105,99,101,100,93,32,47,32,91,43,118,111,119,101,108,93,32,95,32,91,43,118,111,119,101,108,93], .str [112,97,112]], [], [(.ret (.str [112,97,112]), none)]),
  (26, [letters, ruleLenis, .str [97,112,97,112,97]], [], [(.ret (.tup [.lst [.agg [.int .i64 1, .int .i64 2], .agg [.int .i64 3, .int .i64 4]], .int .i64 0]), none)]),
  (24, [letters, ruleOpt, .str [97,112,97,112,97]], [], [(.ret (.tup [.lst [.str [97,112,97,112,97], .str [97,112,97,98,97], .str [97,98,97,112,97], .str [97,98,97,98,97]], .int .i64 0]), none)])]
theorem knownA_ok : KnownOk knownA := known_cons ev_l37 (known_cons ev_r1 (known_cons ev_r2 (known_cons ev_r3 (known_cons ev_w1 (known_cons ev_w2 (known_cons ev_w3 (known_cons ev_w4 (known_cons ev_a15a (known_cons ev_a15b (known_cons ev_a11 (known_cons ev_m1 (known_cons ev_m2 (known_cons ev_m3 (known_cons ev_m4 (known_cons ev_m5 (known_cons ev_m6 (known_cons ev_m7 (known_cons ev_m8 (known_cons ev_m9 (known_cons ev_m10 (known_cons ev_a26 (known_consT knownM_ok ev_a24 (known_nil)))))))))))))))))))))))
theorem ev_alive : evTo knownA 30 [] (.bool true) = true := by kernel_rfl
def knownB : Known := (30, [], [], [(.ret (.bool true), none)]) :: knownA
theorem knownB_ok : KnownOk knownB := known_consT knownA_ok ev_alive knownA_ok
theorem ev_ruleNames : evTo knownB 7 [] (.bool true) = true := by kernel_rfl
/-- RuleNames answers true. -/
theorem ruleNames_true : DCall Tryz.prog 7 [] [] (.ret (.bool true)) [] := evTo_ok knownB_ok ev_ruleNames
end Go.Proofs
end
