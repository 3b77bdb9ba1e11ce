/- A part of a proof: rules for reading Go code as code over plain values, and what follows for this program. Its conditions stand in each statement. -/
import Derived.Test.YtackcjahocaonaaGreatDoorEvTab
import Derived.Test.YtackcjahocaonaaGreatDoorProg
import Derived.Test.YtackcjahocaonaaGreatDoorRlTi
section
set_option maxRecDepth 100000
namespace Go.Proofs
open Go.Ab
theorem Tryz.fk7 : FnOk Tryz.prog 7 (some (ofFn Tryz.f7 true noCls)) := fnOk_of Tryz.func7 (by kernel_rfl) (by kernel_rfl) (by kernel_rfl)
noncomputable def Tryz.cl11 : RT := fun i => bif Nat.beq i 19 then some ⟨none, [0, 1, 1, 0, 0, 0, 1, 1, 1, 1, 1, 1, 0, 0, 0]⟩ else bif Nat.beq i 21 then some ⟨none, [1, 1, 1, 0, 1, 1, 0]⟩ else bif Nat.beq i 26 then some ⟨none, [1, 1, 0, 0, 1, 0, 0, 1, 0, 0, 0, 2, 0]⟩ else none
theorem Tryz.fk11 : FnOk Tryz.prog 11 (some (ofFn Tryz.f11 true Tryz.cl11)) := fnOk_of Tryz.func11 (by kernel_rfl) (by kernel_rfl) (by kernel_rfl)
noncomputable def Tryz.cl13 : RT := fun i => bif Nat.beq i 24 then some ⟨none, [1, 1, 1, 1, 1, 0, 2]⟩ else bif Nat.beq i 28 then some ⟨some [8, 29], [0, 3, 3, 3, 3, 4, 0, 0]⟩ else none
theorem Tryz.fk13 : FnOk Tryz.prog 13 (some (ofFn Tryz.f13 true Tryz.cl13)) := fnOk_of Tryz.func13 (by kernel_rfl) (by kernel_rfl) (by kernel_rfl)
noncomputable def Tryz.cl15 : RT := fun i => bif Nat.beq i 13 then some ⟨none, [1, 0, 1, 1, 1, 1, 1, 1, 1, 1, 2, 0, 0, 0, 0]⟩ else none
theorem Tryz.fk15 : FnOk Tryz.prog 15 (some (ofFn Tryz.f15 true Tryz.cl15)) := fnOk_of Tryz.func15 (by kernel_rfl) (by kernel_rfl) (by kernel_rfl)
theorem Tryz.fk18 : FnOk Tryz.prog 18 (some (ofFn Tryz.f18 false noCls)) := fnOk_of Tryz.func18 (by kernel_rfl) (by kernel_rfl) (by kernel_rfl)
theorem Tryz.fk22 : FnOk Tryz.prog 22 (some (ofFn Tryz.f22 false noCls)) := fnOk_of Tryz.func22 (by kernel_rfl) (by kernel_rfl) (by kernel_rfl)
theorem Tryz.fk24 : FnOk Tryz.prog 24 (some (ofFn Tryz.f24 true noCls)) := fnOk_of Tryz.func24 (by kernel_rfl) (by kernel_rfl) (by kernel_rfl)
theorem Tryz.fk26 : FnOk Tryz.prog 26 (some (ofFn Tryz.f26 true noCls)) := fnOk_of Tryz.func26 (by kernel_rfl) (by kernel_rfl) (by kernel_rfl)
theorem Tryz.fk30 : FnOk Tryz.prog 30 (some (ofFn Tryz.f30 true noCls)) := fnOk_of Tryz.func30 (by kernel_rfl) (by kernel_rfl) (by kernel_rfl)
theorem Tryz.fk36 : FnOk Tryz.prog 36 (some (ofFn Tryz.f36 true noCls)) := fnOk_of Tryz.func36 (by kernel_rfl) (by kernel_rfl) (by kernel_rfl)
theorem Tryz.fk37 : FnOk Tryz.prog 37 (some (ofFn Tryz.f37 true noCls)) := fnOk_of Tryz.func37 (by kernel_rfl) (by kernel_rfl) (by kernel_rfl)
theorem Tryz.fk38 : FnOk Tryz.prog 38 (some (ofFn Tryz.f38 true noCls)) := fnOk_of Tryz.func38 (by kernel_rfl) (by kernel_rfl) (by kernel_rfl)
theorem Tryz.fk39 : FnOk Tryz.prog 39 (some (ofFn Tryz.f39 true noCls)) := fnOk_of Tryz.func39 (by kernel_rfl) (by kernel_rfl) (by kernel_rfl)
theorem Tryz.fk43 : FnOk Tryz.prog 43 (some (ofFn Tryz.f43 true noCls)) := fnOk_of Tryz.func43 (by kernel_rfl) (by kernel_rfl) (by kernel_rfl)
theorem Tryz.fk44 : FnOk Tryz.prog 44 (some (ofFn Tryz.f44 true noCls)) := fnOk_of Tryz.func44 (by kernel_rfl) (by kernel_rfl) (by kernel_rfl)
theorem Tryz.fk45 : FnOk Tryz.prog 45 (some (ofFn Tryz.f45 false noCls)) := fnOk_of Tryz.func45 (by kernel_rfl) (by kernel_rfl) (by kernel_rfl)
theorem Tryz.fk46 : FnOk Tryz.prog 46 (some (ofFn Tryz.f46 false noCls)) := fnOk_of Tryz.func46 (by kernel_rfl) (by kernel_rfl) (by kernel_rfl)
theorem Tryz.fk47 : FnOk Tryz.prog 47 (some (ofFn Tryz.f47 true noCls)) := fnOk_of Tryz.func47 (by kernel_rfl) (by kernel_rfl) (by kernel_rfl)
noncomputable def Tryz.cl53 : RT := fun i => bif Nat.beq i 1 then some ⟨none, [0, 1, 1, 1, 0, 0, 0, 1, 1, 1, 0, 1, 1, 1, 0, 0, 0]⟩ else none
theorem Tryz.fk53 : FnOk Tryz.prog 53 (some (ofFn Tryz.f53 false Tryz.cl53)) := fnOk_of Tryz.func53 (by kernel_rfl) (by kernel_rfl) (by kernel_rfl)
theorem Tryz.fk54 : FnOk Tryz.prog 54 (some (ofFn Tryz.f54 false noCls)) := fnOk_of Tryz.func54 (by kernel_rfl) (by kernel_rfl) (by kernel_rfl)
theorem Tryz.fk55 : FnOk Tryz.prog 55 (some (ofFn Tryz.f55 false noCls)) := fnOk_of Tryz.func55 (by kernel_rfl) (by kernel_rfl) (by kernel_rfl)
theorem Tryz.fk56 : FnOk Tryz.prog 56 (some (ofFn Tryz.f56 false noCls)) := fnOk_of Tryz.func56 (by kernel_rfl) (by kernel_rfl) (by kernel_rfl)
theorem Tryz.fk57 : FnOk Tryz.prog 57 (some (ofFn Tryz.f57 false noCls)) := fnOk_of Tryz.func57 (by kernel_rfl) (by kernel_rfl) (by kernel_rfl)
theorem Tryz.fk58 : FnOk Tryz.prog 58 (some (ofFn Tryz.f58 false noCls)) := fnOk_of Tryz.func58 (by kernel_rfl) (by kernel_rfl) (by kernel_rfl)
theorem Tryz.fk59 : FnOk Tryz.prog 59 (some (ofFn Tryz.f59 false noCls)) := fnOk_of Tryz.func59 (by kernel_rfl) (by kernel_rfl) (by kernel_rfl)
theorem Tryz.fk60 : FnOk Tryz.prog 60 (some (ofFn Tryz.f60 false noCls)) := fnOk_of Tryz.func60 (by kernel_rfl) (by kernel_rfl) (by kernel_rfl)
theorem Tryz.fk61 : FnOk Tryz.prog 61 (some (ofFn Tryz.f61 false noCls)) := fnOk_of Tryz.func61 (by kernel_rfl) (by kernel_rfl) (by kernel_rfl)
noncomputable def Tryz.cl62 : RT := fun i => bif Nat.beq i 5 then some ⟨none, [0, 0, 0, 0, 0, 0, 0, 0, 0, 0, 0, 0, 0, 1, 1, 0, 0, 0]⟩ else bif Nat.beq i 10 then some ⟨none, [1, 0, 0, 2, 0, 0, 0, 0, 1, 2, 1, 2, 0]⟩ else none
theorem Tryz.fk62 : FnOk Tryz.prog 62 (some (ofFn Tryz.f62 false Tryz.cl62)) := fnOk_of Tryz.func62 (by kernel_rfl) (by kernel_rfl) (by kernel_rfl)
theorem Tryz.fk63 : FnOk Tryz.prog 63 (some (ofFn Tryz.f63 false noCls)) := fnOk_of Tryz.func63 (by kernel_rfl) (by kernel_rfl) (by kernel_rfl)
theorem Tryz.fk64 : FnOk Tryz.prog 64 (some (ofFn Tryz.f64 false noCls)) := fnOk_of Tryz.func64 (by kernel_rfl) (by kernel_rfl) (by kernel_rfl)
theorem Tryz.fk65 : FnOk Tryz.prog 65 (some (ofFn Tryz.f65 false noCls)) := fnOk_of Tryz.func65 (by kernel_rfl) (by kernel_rfl) (by kernel_rfl)
theorem Tryz.fk66 : FnOk Tryz.prog 66 (some (ofFn Tryz.f66 false noCls)) := fnOk_of Tryz.func66 (by kernel_rfl) (by kernel_rfl) (by kernel_rfl)
theorem Tryz.fk76 : FnOk Tryz.prog 76 (some (ofFn Tryz.f76 false noCls)) := fnOk_of Tryz.func76 (by kernel_rfl) (by kernel_rfl) (by kernel_rfl)
theorem Tryz.fk77 : FnOk Tryz.prog 77 (some (ofFn Tryz.f77 false noCls)) := fnOk_of Tryz.func77 (by kernel_rfl) (by kernel_rfl) (by kernel_rfl)
theorem Tryz.fk78 : FnOk Tryz.prog 78 (some (ofFn Tryz.f78 false noCls)) := fnOk_of Tryz.func78 (by kernel_rfl) (by kernel_rfl) (by kernel_rfl)
theorem Tryz.fk83 : FnOk Tryz.prog 83 (some (ofFn Tryz.f83 false noCls)) := fnOk_of Tryz.func83 (by kernel_rfl) (by kernel_rfl) (by kernel_rfl)
theorem Tryz.fk84 : FnOk Tryz.prog 84 (some (ofFn Tryz.f84 false noCls)) := fnOk_of Tryz.func84 (by kernel_rfl) (by kernel_rfl) (by kernel_rfl)
noncomputable def Tryz.cl86 : RT := fun i => bif Nat.beq i 14 then some ⟨none, [1, 1, 1, 2, 0]⟩ else none
theorem Tryz.fk86 : FnOk Tryz.prog 86 (some (ofFn Tryz.f86 false Tryz.cl86)) := fnOk_of Tryz.func86 (by kernel_rfl) (by kernel_rfl) (by kernel_rfl)
theorem Tryz.fk90 : FnOk Tryz.prog 90 (some (ofFn Tryz.f90 false noCls)) := fnOk_of Tryz.func90 (by kernel_rfl) (by kernel_rfl) (by kernel_rfl)
theorem Tryz.fk91 : FnOk Tryz.prog 91 (some (ofFn Tryz.f91 false noCls)) := fnOk_of Tryz.func91 (by kernel_rfl) (by kernel_rfl) (by kernel_rfl)
theorem Tryz.fk92 : FnOk Tryz.prog 92 (some (ofFn Tryz.f92 false noCls)) := fnOk_of Tryz.func92 (by kernel_rfl) (by kernel_rfl) (by kernel_rfl)
theorem Tryz.fk93 : FnOk Tryz.prog 93 (some (ofFn Tryz.f93 false noCls)) := fnOk_of Tryz.func93 (by kernel_rfl) (by kernel_rfl) (by kernel_rfl)
theorem Tryz.fk95 : FnOk Tryz.prog 95 (some (ofFn Tryz.f95 false noCls)) := fnOk_of Tryz.func95 (by kernel_rfl) (by kernel_rfl) (by kernel_rfl)
theorem Tryz.fk96 : FnOk Tryz.prog 96 (some (ofFn Tryz.f96 false noCls)) := fnOk_of Tryz.func96 (by kernel_rfl) (by kernel_rfl) (by kernel_rfl)
noncomputable def Tryz.cl97 : RT := fun i => bif Nat.beq i 7 then some ⟨none, [0, 0, 0, 0, 0, 1, 1, 1, 1, 1, 1, 1, 1, 2, 0]⟩ else none
theorem Tryz.fk97 : FnOk Tryz.prog 97 (some (ofFn Tryz.f97 false Tryz.cl97)) := fnOk_of Tryz.func97 (by kernel_rfl) (by kernel_rfl) (by kernel_rfl)
theorem Tryz.fk99 : FnOk Tryz.prog 99 (some (ofFn Tryz.f99 false noCls)) := fnOk_of Tryz.func99 (by kernel_rfl) (by kernel_rfl) (by kernel_rfl)
theorem Tryz.fk101 : FnOk Tryz.prog 101 (some (ofFn Tryz.f101 false noCls)) := fnOk_of Tryz.func101 (by kernel_rfl) (by kernel_rfl) (by kernel_rfl)
theorem Tryz.fk102 : FnOk Tryz.prog 102 (some (ofFn Tryz.f102 false noCls)) := fnOk_of Tryz.func102 (by kernel_rfl) (by kernel_rfl) (by kernel_rfl)
theorem Tryz.fk106 : FnOk Tryz.prog 106 (some (ofFn Tryz.f106 false noCls)) := fnOk_of Tryz.func106 (by kernel_rfl) (by kernel_rfl) (by kernel_rfl)
noncomputable def Tryz.cl107 : RT := fun i => bif Nat.beq i 32 then some ⟨none, [1, 1, 1, 1, 1, 2]⟩ else bif Nat.beq i 35 then some ⟨none, [1, 1, 1, 1, 1, 2]⟩ else none
theorem Tryz.fk107 : FnOk Tryz.prog 107 (some (ofFn Tryz.f107 false Tryz.cl107)) := fnOk_of Tryz.func107 (by kernel_rfl) (by kernel_rfl) (by kernel_rfl)
theorem Tryz.fk108 : FnOk Tryz.prog 108 (some (ofFn Tryz.f108 false noCls)) := fnOk_of Tryz.func108 (by kernel_rfl) (by kernel_rfl) (by kernel_rfl)
theorem Tryz.fk109 : FnOk Tryz.prog 109 (some (ofFn Tryz.f109 false noCls)) := fnOk_of Tryz.func109 (by kernel_rfl) (by kernel_rfl) (by kernel_rfl)
theorem Tryz.fk110 : FnOk Tryz.prog 110 (some (ofFn Tryz.f110 false noCls)) := fnOk_of Tryz.func110 (by kernel_rfl) (by kernel_rfl) (by kernel_rfl)
theorem Tryz.fk111 : FnOk Tryz.prog 111 (some (ofFn Tryz.f111 false noCls)) := fnOk_of Tryz.func111 (by kernel_rfl) (by kernel_rfl) (by kernel_rfl)
noncomputable def Tryz.cl112 : RT := fun i => bif Nat.beq i 1 then some ⟨none, [0, 1, 1, 1, 1, 0, 1, 1, 1, 0, 2, 0]⟩ else none
theorem Tryz.fk112 : FnOk Tryz.prog 112 (some (ofFn Tryz.f112 false Tryz.cl112)) := fnOk_of Tryz.func112 (by kernel_rfl) (by kernel_rfl) (by kernel_rfl)
noncomputable def Tryz.cl113 : RT := fun i => bif Nat.beq i 3 then some ⟨none, [0, 1, 1, 1, 0, 0, 1, 1, 1, 0, 0, 0, 0]⟩ else none
theorem Tryz.fk113 : FnOk Tryz.prog 113 (some (ofFn Tryz.f113 false Tryz.cl113)) := fnOk_of Tryz.func113 (by kernel_rfl) (by kernel_rfl) (by kernel_rfl)
theorem Tryz.fk119 : FnOk Tryz.prog 119 (some (ofFn Tryz.f119 false noCls)) := fnOk_of Tryz.func119 (by kernel_rfl) (by kernel_rfl) (by kernel_rfl)
noncomputable def Tryz.cl120 : RT := fun i => bif Nat.beq i 3 then some ⟨none, [0, 0, 0, 0, 0, 0, 0, 0, 0, 0, 0, 0]⟩ else none
theorem Tryz.fk120 : FnOk Tryz.prog 120 (some (ofFn Tryz.f120 false Tryz.cl120)) := fnOk_of Tryz.func120 (by kernel_rfl) (by kernel_rfl) (by kernel_rfl)
theorem Tryz.fk122 : FnOk Tryz.prog 122 (some (ofFn Tryz.f122 false noCls)) := fnOk_of Tryz.func122 (by kernel_rfl) (by kernel_rfl) (by kernel_rfl)
theorem Tryz.fk123 : FnOk Tryz.prog 123 (some (ofFn Tryz.f123 false noCls)) := fnOk_of Tryz.func123 (by kernel_rfl) (by kernel_rfl) (by kernel_rfl)
theorem Tryz.fk124 : FnOk Tryz.prog 124 (some (ofFn Tryz.f124 false noCls)) := fnOk_of Tryz.func124 (by kernel_rfl) (by kernel_rfl) (by kernel_rfl)
noncomputable def Tryz.cl125 : RT := fun i => bif Nat.beq i 10 then some ⟨none, [1, 1, 0, 0, 0, 0, 0, 0, 0, 0, 0, 2, 0]⟩ else none
theorem Tryz.fk125 : FnOk Tryz.prog 125 (some (ofFn Tryz.f125 false Tryz.cl125)) := fnOk_of Tryz.func125 (by kernel_rfl) (by kernel_rfl) (by kernel_rfl)
theorem Tryz.fk126 : FnOk Tryz.prog 126 (some (ofFn Tryz.f126 false noCls)) := fnOk_of Tryz.func126 (by kernel_rfl) (by kernel_rfl) (by kernel_rfl)
theorem Tryz.fk127 : FnOk Tryz.prog 127 (some (ofFn Tryz.f127 false noCls)) := fnOk_of Tryz.func127 (by kernel_rfl) (by kernel_rfl) (by kernel_rfl)
theorem Tryz.fk128 : FnOk Tryz.prog 128 (some (ofFn Tryz.f128 false noCls)) := fnOk_of Tryz.func128 (by kernel_rfl) (by kernel_rfl) (by kernel_rfl)
theorem Tryz.fk129 : FnOk Tryz.prog 129 (some (ofFn Tryz.f129 false noCls)) := fnOk_of Tryz.func129 (by kernel_rfl) (by kernel_rfl) (by kernel_rfl)
theorem Tryz.fk137 : FnOk Tryz.prog 137 (some (ofFn Tryz.f137 false noCls)) := fnOk_of Tryz.func137 (by kernel_rfl) (by kernel_rfl) (by kernel_rfl)
noncomputable def Tryz.cl138 : RT := fun i => bif Nat.beq i 7 then some ⟨none, [0, 0, 0, 1, 1, 1, 2, 0]⟩ else none
theorem Tryz.fk138 : FnOk Tryz.prog 138 (some (ofFn Tryz.f138 false Tryz.cl138)) := fnOk_of Tryz.func138 (by kernel_rfl) (by kernel_rfl) (by kernel_rfl)
noncomputable def Tryz.cl139 : RT := fun i => bif Nat.beq i 1 then some ⟨none, [1, 1, 1, 1, 1, 2, 0, 0]⟩ else none
theorem Tryz.fk139 : FnOk Tryz.prog 139 (some (ofFn Tryz.f139 false Tryz.cl139)) := fnOk_of Tryz.func139 (by kernel_rfl) (by kernel_rfl) (by kernel_rfl)
theorem Tryz.fk140 : FnOk Tryz.prog 140 (some (ofFn Tryz.f140 true noCls)) := fnOk_of Tryz.func140 (by kernel_rfl) (by kernel_rfl) (by kernel_rfl)
theorem Tryz.fk144 : FnOk Tryz.prog 144 (some (ofFn Tryz.f144 false noCls)) := fnOk_of Tryz.func144 (by kernel_rfl) (by kernel_rfl) (by kernel_rfl)
theorem Tryz.fk145 : FnOk Tryz.prog 145 (some (ofFn Tryz.f145 false noCls)) := fnOk_of Tryz.func145 (by kernel_rfl) (by kernel_rfl) (by kernel_rfl)
noncomputable def Tryz.cl147 : RT := fun i => bif Nat.beq i 2 then some ⟨none, [0, 0, 0, 1, 1, 1, 1, 0, 0, 0]⟩ else none
theorem Tryz.fk147 : FnOk Tryz.prog 147 (some (ofFn Tryz.f147 false Tryz.cl147)) := fnOk_of Tryz.func147 (by kernel_rfl) (by kernel_rfl) (by kernel_rfl)
theorem Tryz.fk148 : FnOk Tryz.prog 148 (some (ofFn Tryz.f148 false noCls)) := fnOk_of Tryz.func148 (by kernel_rfl) (by kernel_rfl) (by kernel_rfl)
theorem Tryz.fk149 : FnOk Tryz.prog 149 (some (ofFn Tryz.f149 false noCls)) := fnOk_of Tryz.func149 (by kernel_rfl) (by kernel_rfl) (by kernel_rfl)
noncomputable def Tryz.cl150 : RT := fun i => bif Nat.beq i 10 then some ⟨none, [1, 1, 0, 1, 1, 0, 0, 1, 1, 0, 1, 1, 1, 0, 1, 1, 2]⟩ else none
theorem Tryz.fk150 : FnOk Tryz.prog 150 (some (ofFn Tryz.f150 true Tryz.cl150)) := fnOk_of Tryz.func150 (by kernel_rfl) (by kernel_rfl) (by kernel_rfl)
noncomputable def Tryz.cl151 : RT := fun i => bif Nat.beq i 3 then some ⟨none, [0, 0, 0, 0, 0, 0, 1, 1, 0, 0, 1, 1, 1, 2, 1, 2]⟩ else none
theorem Tryz.fk151 : FnOk Tryz.prog 151 (some (ofFn Tryz.f151 false Tryz.cl151)) := fnOk_of Tryz.func151 (by kernel_rfl) (by kernel_rfl) (by kernel_rfl)
noncomputable def Tryz.cl157 : RT := fun i => bif Nat.beq i 17 then some ⟨none, [0, 0, 0, 0, 0, 0, 0, 1, 1, 0, 0, 1, 1, 2, 0, 0, 0]⟩ else none
theorem Tryz.fk157 : FnOk Tryz.prog 157 (some (ofFn Tryz.f157 false Tryz.cl157)) := fnOk_of Tryz.func157 (by kernel_rfl) (by kernel_rfl) (by kernel_rfl)
theorem Tryz.fk158 : FnOk Tryz.prog 158 (some (ofFn Tryz.f158 false noCls)) := fnOk_of Tryz.func158 (by kernel_rfl) (by kernel_rfl) (by kernel_rfl)
theorem Tryz.fk160 : FnOk Tryz.prog 160 (some (ofFn Tryz.f160 false noCls)) := fnOk_of Tryz.func160 (by kernel_rfl) (by kernel_rfl) (by kernel_rfl)
theorem Tryz.fk161 : FnOk Tryz.prog 161 (some (ofFn Tryz.f161 false noCls)) := fnOk_of Tryz.func161 (by kernel_rfl) (by kernel_rfl) (by kernel_rfl)
theorem Tryz.fk162 : FnOk Tryz.prog 162 (some (ofFn Tryz.f162 false noCls)) := fnOk_of Tryz.func162 (by kernel_rfl) (by kernel_rfl) (by kernel_rfl)
theorem Tryz.fk163 : FnOk Tryz.prog 163 (some (ofFn Tryz.f163 false noCls)) := fnOk_of Tryz.func163 (by kernel_rfl) (by kernel_rfl) (by kernel_rfl)
theorem Tryz.fk164 : FnOk Tryz.prog 164 (some (ofFn Tryz.f164 false noCls)) := fnOk_of Tryz.func164 (by kernel_rfl) (by kernel_rfl) (by kernel_rfl)
theorem Tryz.fk165 : FnOk Tryz.prog 165 (some (ofFn Tryz.f165 false noCls)) := fnOk_of Tryz.func165 (by kernel_rfl) (by kernel_rfl) (by kernel_rfl)
theorem Tryz.fk169 : FnOk Tryz.prog 169 (some (ofFn Tryz.f169 false noCls)) := fnOk_of Tryz.func169 (by kernel_rfl) (by kernel_rfl) (by kernel_rfl)
theorem Tryz.fk176 : FnOk Tryz.prog 176 (some (ofFn Tryz.f176 false noCls)) := fnOk_of Tryz.func176 (by kernel_rfl) (by kernel_rfl) (by kernel_rfl)
theorem Tryz.fk177 : FnOk Tryz.prog 177 (some (ofFn Tryz.f177 false noCls)) := fnOk_of Tryz.func177 (by kernel_rfl) (by kernel_rfl) (by kernel_rfl)
noncomputable def Tryz.cl178 : RT := fun i => bif Nat.beq i 0 then some ⟨some [0], [0, 1, 1, 1, 0, 0, 0, 0, 4, 0, 3, 3, 3, 0, 1, 0]⟩ else none
theorem Tryz.fk178 : FnOk Tryz.prog 178 (some (ofFn Tryz.f178 false Tryz.cl178)) := fnOk_of Tryz.func178 (by kernel_rfl) (by kernel_rfl) (by kernel_rfl)
theorem Tryz.fk180 : FnOk Tryz.prog 180 (some (ofFn Tryz.f180 false noCls)) := fnOk_of Tryz.func180 (by kernel_rfl) (by kernel_rfl) (by kernel_rfl)
theorem Tryz.fk181 : FnOk Tryz.prog 181 (some (ofFn Tryz.f181 false noCls)) := fnOk_of Tryz.func181 (by kernel_rfl) (by kernel_rfl) (by kernel_rfl)
theorem Tryz.fk183 : FnOk Tryz.prog 183 (some (ofFn Tryz.f183 false noCls)) := fnOk_of Tryz.func183 (by kernel_rfl) (by kernel_rfl) (by kernel_rfl)
theorem Tryz.fk184 : FnOk Tryz.prog 184 (some (ofFn Tryz.f184 false noCls)) := fnOk_of Tryz.func184 (by kernel_rfl) (by kernel_rfl) (by kernel_rfl)
theorem Tryz.fk186 : FnOk Tryz.prog 186 (some (ofFn Tryz.f186 false noCls)) := fnOk_of Tryz.func186 (by kernel_rfl) (by kernel_rfl) (by kernel_rfl)
theorem Tryz.fk188 : FnOk Tryz.prog 188 (some (ofFn Tryz.f188 false noCls)) := fnOk_of Tryz.func188 (by kernel_rfl) (by kernel_rfl) (by kernel_rfl)
theorem Tryz.fk189 : FnOk Tryz.prog 189 (some (ofFn Tryz.f189 false noCls)) := fnOk_of Tryz.func189 (by kernel_rfl) (by kernel_rfl) (by kernel_rfl)
theorem Tryz.fk190 : FnOk Tryz.prog 190 (some (ofFn Tryz.f190 false noCls)) := fnOk_of Tryz.func190 (by kernel_rfl) (by kernel_rfl) (by kernel_rfl)
noncomputable def Tryz.cl191 : RT := fun i => bif Nat.beq i 6 then some ⟨some [5], [0, 1, 1, 1, 3, 4, 2, 2]⟩ else none
theorem Tryz.fk191 : FnOk Tryz.prog 191 (some (ofFnD Tryz.f191 true Tryz.cl191 (dfOf Tryz.f191 Tryz.f252 252 8 [.tmp 4, .tmp 5, .tmp 6] 6 noCls))) := fnOkD_of 1 0 #[] #[] Tryz.func191 (by kernel_rfl) Tryz.func252 (by kernel_rfl) (by kernel_rfl) (by kernel_rfl) (by kernel_rfl) (by kernel_rfl) (by kernel_rfl) (by kernel_rfl) (by kernel_rfl) (by kernel_rfl) (by kernel_rfl) (by kernel_rfl) (by kernel_rfl) (by kernel_rfl) (by kernel_rfl) (by kernel_rfl)
theorem Tryz.fk196 : FnOk Tryz.prog 196 (some (ofFn Tryz.f196 false noCls)) := fnOk_of Tryz.func196 (by kernel_rfl) (by kernel_rfl) (by kernel_rfl)
theorem Tryz.fk197 : FnOk Tryz.prog 197 (some (ofFn Tryz.f197 false noCls)) := fnOk_of Tryz.func197 (by kernel_rfl) (by kernel_rfl) (by kernel_rfl)
noncomputable def Tryz.cl198 : RT := fun i => bif Nat.beq i 1 then some ⟨none, [0, 0, 0, 0, 0, 0, 0, 0, 0, 0, 0, 0, 0, 0, 0, 0, 0, 0, 0]⟩ else none
theorem Tryz.fk198 : FnOk Tryz.prog 198 (some (ofFn Tryz.f198 false Tryz.cl198)) := fnOk_of Tryz.func198 (by kernel_rfl) (by kernel_rfl) (by kernel_rfl)
theorem Tryz.fk201 : FnOk Tryz.prog 201 (some (ofFn Tryz.f201 false noCls)) := fnOk_of Tryz.func201 (by kernel_rfl) (by kernel_rfl) (by kernel_rfl)
noncomputable def Tryz.cl202 : RT := fun i => bif Nat.beq i 7 then some ⟨none, [0, 0, 1, 1, 1, 0, 1, 1, 1, 1, 1, 2, 0, 2, 0]⟩ else none
theorem Tryz.fk202 : FnOk Tryz.prog 202 (some (ofFn Tryz.f202 false Tryz.cl202)) := fnOk_of Tryz.func202 (by kernel_rfl) (by kernel_rfl) (by kernel_rfl)
theorem Tryz.fk203 : FnOk Tryz.prog 203 (some (ofFn Tryz.f203 false noCls)) := fnOk_of Tryz.func203 (by kernel_rfl) (by kernel_rfl) (by kernel_rfl)
noncomputable def Tryz.cl204 : RT := fun i => bif Nat.beq i 2 then some ⟨some [2], [3, 0, 1, 0, 1, 4, 0, 0, 2, 0]⟩ else none
theorem Tryz.fk204 : FnOk Tryz.prog 204 (some (ofFn Tryz.f204 false Tryz.cl204)) := fnOk_of Tryz.func204 (by kernel_rfl) (by kernel_rfl) (by kernel_rfl)
theorem Tryz.fk205 : FnOk Tryz.prog 205 (some (ofFn Tryz.f205 false noCls)) := fnOk_of Tryz.func205 (by kernel_rfl) (by kernel_rfl) (by kernel_rfl)
theorem Tryz.fk206 : FnOk Tryz.prog 206 (some (ofFn Tryz.f206 false noCls)) := fnOk_of Tryz.func206 (by kernel_rfl) (by kernel_rfl) (by kernel_rfl)
noncomputable def Tryz.cl207 : RT := fun i => bif Nat.beq i 3 then some ⟨none, [0, 0, 0, 0, 0, 0, 1, 1, 0, 0, 1, 1, 1, 2, 1, 2]⟩ else none
theorem Tryz.fk207 : FnOk Tryz.prog 207 (some (ofFn Tryz.f207 false Tryz.cl207)) := fnOk_of Tryz.func207 (by kernel_rfl) (by kernel_rfl) (by kernel_rfl)
noncomputable def Tryz.cl208 : RT := fun i => bif Nat.beq i 3 then some ⟨none, [0, 0, 0, 0, 0, 0, 1, 1, 0, 0, 1, 1, 1, 2, 1, 2]⟩ else none
theorem Tryz.fk208 : FnOk Tryz.prog 208 (some (ofFn Tryz.f208 false Tryz.cl208)) := fnOk_of Tryz.func208 (by kernel_rfl) (by kernel_rfl) (by kernel_rfl)
noncomputable def Tryz.cl216 : RT := fun i => bif Nat.beq i 4 then some ⟨none, [0, 0, 0, 0, 0, 0, 0, 1, 1, 0, 0, 0, 1, 1, 2, 0, 0]⟩ else bif Nat.beq i 6 then some ⟨none, [0, 0, 0, 0, 0, 0, 0, 0, 1, 1, 0, 0, 1, 1, 1, 2, 1, 2]⟩ else none
theorem Tryz.fk216 : FnOk Tryz.prog 216 (some (ofFn Tryz.f216 false Tryz.cl216)) := fnOk_of Tryz.func216 (by kernel_rfl) (by kernel_rfl) (by kernel_rfl)
noncomputable def Tryz.cl217 : RT := fun i => bif Nat.beq i 10 then some ⟨none, [0, 0, 0, 0, 0, 0, 0, 0, 0, 0, 1, 1, 0, 0, 1, 1, 1, 2, 1, 2]⟩ else none
theorem Tryz.fk217 : FnOk Tryz.prog 217 (some (ofFn Tryz.f217 false Tryz.cl217)) := fnOk_of Tryz.func217 (by kernel_rfl) (by kernel_rfl) (by kernel_rfl)
noncomputable def Tryz.cl218 : RT := fun i => bif Nat.beq i 10 then some ⟨none, [0, 0, 0, 0, 0, 0, 0, 0, 0, 0, 1, 1, 0, 0, 1, 1, 1, 2, 1, 2]⟩ else none
theorem Tryz.fk218 : FnOk Tryz.prog 218 (some (ofFn Tryz.f218 false Tryz.cl218)) := fnOk_of Tryz.func218 (by kernel_rfl) (by kernel_rfl) (by kernel_rfl)
theorem Tryz.fk219 : FnOk Tryz.prog 219 (some (ofFn Tryz.f219 false noCls)) := fnOk_of Tryz.func219 (by kernel_rfl) (by kernel_rfl) (by kernel_rfl)
noncomputable def Tryz.cl220 : RT := fun i => bif Nat.beq i 3 then some ⟨none, [0, 0, 0, 0, 0, 0, 1, 1, 0, 0, 1, 1, 1, 2, 1, 2]⟩ else none
theorem Tryz.fk220 : FnOk Tryz.prog 220 (some (ofFn Tryz.f220 false Tryz.cl220)) := fnOk_of Tryz.func220 (by kernel_rfl) (by kernel_rfl) (by kernel_rfl)
noncomputable def Tryz.cl221 : RT := fun i => bif Nat.beq i 5 then some ⟨none, [0, 0, 0, 0, 0, 0, 0, 1, 1, 0, 0, 0, 1, 1, 2, 0, 0, 0]⟩ else bif Nat.beq i 11 then some ⟨none, [0, 0, 0, 0, 0, 0, 0, 0, 1, 1, 0, 0, 1, 1, 1, 2, 1, 2]⟩ else bif Nat.beq i 16 then some ⟨none, [0, 0, 0, 1, 1, 0, 0, 0, 1, 1, 2, 0, 0]⟩ else bif Nat.beq i 17 then some ⟨none, [0, 0, 0, 0, 0, 0, 0, 0, 1, 1, 0, 0, 1, 1, 1, 2, 1, 2]⟩ else bif Nat.beq i 22 then some ⟨none, [0, 0, 0, 1, 1, 0, 0, 0, 1, 1, 2, 0, 0]⟩ else bif Nat.beq i 23 then some ⟨none, [0, 0, 0, 0, 0, 0, 0, 0, 1, 1, 0, 0, 1, 1, 1, 2, 1, 2]⟩ else none
theorem Tryz.fk221 : FnOk Tryz.prog 221 (some (ofFn Tryz.f221 false Tryz.cl221)) := fnOk_of Tryz.func221 (by kernel_rfl) (by kernel_rfl) (by kernel_rfl)
noncomputable def Tryz.cl222 : RT := fun i => bif Nat.beq i 1 then some ⟨none, [0, 0, 0, 0, 0, 0, 1, 1, 0, 0, 1, 1, 1, 2, 1, 2]⟩ else bif Nat.beq i 3 then some ⟨none, [0, 0, 0, 0, 0, 0, 0, 1, 1, 0, 0, 1, 1, 2, 0, 0, 0]⟩ else bif Nat.beq i 5 then some ⟨none, [0, 0, 0, 0, 0, 0, 0, 1, 1, 0, 0, 1, 1, 2, 0, 0]⟩ else bif Nat.beq i 8 then some ⟨none, [0, 0, 0, 0, 0, 0, 1, 1, 0, 0, 1, 1, 1, 2, 1, 2]⟩ else none
theorem Tryz.fk222 : FnOk Tryz.prog 222 (some (ofFn Tryz.f222 false Tryz.cl222)) := fnOk_of Tryz.func222 (by kernel_rfl) (by kernel_rfl) (by kernel_rfl)
noncomputable def Tryz.cl223 : RT := fun i => bif Nat.beq i 1 then some ⟨none, [0, 0, 0, 0, 0, 0, 1, 1, 0, 0, 1, 1, 1, 2, 1, 2]⟩ else bif Nat.beq i 3 then some ⟨none, [0, 0, 0, 0, 0, 0, 0, 1, 1, 0, 0, 1, 1, 2, 0, 0]⟩ else bif Nat.beq i 5 then some ⟨none, [0, 0, 0, 0, 0, 0, 0, 1, 1, 0, 0, 1, 1, 2, 0, 0, 0]⟩ else bif Nat.beq i 8 then some ⟨none, [0, 0, 0, 0, 0, 0, 1, 1, 0, 0, 1, 1, 1, 2, 1, 2]⟩ else bif Nat.beq i 10 then some ⟨none, [0, 0, 0, 0, 0, 0, 1, 1, 0, 0, 1, 1, 1, 2, 1, 2]⟩ else bif Nat.beq i 13 then some ⟨none, [0, 0, 0, 0, 0, 0, 0, 1, 1, 0, 0, 1, 1, 2, 0, 0]⟩ else bif Nat.beq i 15 then some ⟨none, [0, 0, 0, 0, 0, 0, 0, 1, 1, 0, 0, 1, 1, 2, 0, 0, 0]⟩ else bif Nat.beq i 18 then some ⟨none, [0, 0, 0, 0, 0, 0, 1, 1, 0, 0, 1, 1, 1, 2, 1, 2]⟩ else bif Nat.beq i 21 then some ⟨none, [0, 0, 0, 0, 0, 0, 1, 1, 0, 0, 1, 1, 1, 2, 1, 2]⟩ else none
theorem Tryz.fk223 : FnOk Tryz.prog 223 (some (ofFn Tryz.f223 false Tryz.cl223)) := fnOk_of Tryz.func223 (by kernel_rfl) (by kernel_rfl) (by kernel_rfl)
theorem Tryz.fk224 : FnOk Tryz.prog 224 (some (ofFn Tryz.f224 false noCls)) := fnOk_of Tryz.func224 (by kernel_rfl) (by kernel_rfl) (by kernel_rfl)
theorem Tryz.fk225 : FnOk Tryz.prog 225 (some (ofFn Tryz.f225 false noCls)) := fnOk_of Tryz.func225 (by kernel_rfl) (by kernel_rfl) (by kernel_rfl)
theorem Tryz.fk226 : FnOk Tryz.prog 226 (some (ofFn Tryz.f226 false noCls)) := fnOk_of Tryz.func226 (by kernel_rfl) (by kernel_rfl) (by kernel_rfl)
noncomputable def Tryz.cl227 : RT := fun i => bif Nat.beq i 16 then some ⟨none, [0, 1, 0, 0, 1, 0, 1, 1, 1, 2]⟩ else bif Nat.beq i 35 then some ⟨none, [0, 1, 1, 1, 1, 1, 0, 2, 2]⟩ else bif Nat.beq i 44 then some ⟨none, [1, 1, 1, 1, 1, 0, 2, 0, 0]⟩ else none
theorem Tryz.fk227 : FnOk Tryz.prog 227 (some (ofFn Tryz.f227 false Tryz.cl227)) := fnOk_of Tryz.func227 (by kernel_rfl) (by kernel_rfl) (by kernel_rfl)
theorem Tryz.fk228 : FnOk Tryz.prog 228 (some (ofFn Tryz.f228 false noCls)) := fnOk_of Tryz.func228 (by kernel_rfl) (by kernel_rfl) (by kernel_rfl)
noncomputable def Tryz.cl232 : RT := fun i => bif Nat.beq i 10 then some ⟨some [3], [3, 0, 1, 0, 1, 1, 1, 1, 0, 0, 4, 1, 1, 2]⟩ else none
theorem Tryz.fk232 : FnOk Tryz.prog 232 (some (ofFn Tryz.f232 false Tryz.cl232)) := fnOk_of Tryz.func232 (by kernel_rfl) (by kernel_rfl) (by kernel_rfl)
theorem Tryz.fk233 : FnOk Tryz.prog 233 (some (ofFn Tryz.f233 false noCls)) := fnOk_of Tryz.func233 (by kernel_rfl) (by kernel_rfl) (by kernel_rfl)
noncomputable def Tryz.cl234 : RT := fun i => bif Nat.beq i 3 then some ⟨none, [0, 0, 0, 0, 0, 0, 1, 1, 0, 0, 1, 1, 1, 2, 1, 2]⟩ else none
theorem Tryz.fk234 : FnOk Tryz.prog 234 (some (ofFn Tryz.f234 false Tryz.cl234)) := fnOk_of Tryz.func234 (by kernel_rfl) (by kernel_rfl) (by kernel_rfl)
theorem Tryz.fk243 : FnOk Tryz.prog 243 (some (ofFn Tryz.f243 false noCls)) := fnOk_of Tryz.func243 (by kernel_rfl) (by kernel_rfl) (by kernel_rfl)
theorem Tryz.fk245 : FnOk Tryz.prog 245 (some (ofFn Tryz.f245 false noCls)) := fnOk_of Tryz.func245 (by kernel_rfl) (by kernel_rfl) (by kernel_rfl)
theorem Tryz.fk247 : FnOk Tryz.prog 247 (some (ofFn Tryz.f247 false noCls)) := fnOk_of Tryz.func247 (by kernel_rfl) (by kernel_rfl) (by kernel_rfl)
theorem Tryz.fk248 : FnOk Tryz.prog 248 (some (ofFn Tryz.f248 false noCls)) := fnOk_of Tryz.func248 (by kernel_rfl) (by kernel_rfl) (by kernel_rfl)
theorem Tryz.fk249 : FnOk Tryz.prog 249 (some (ofFn Tryz.f249 false noCls)) := fnOk_of Tryz.func249 (by kernel_rfl) (by kernel_rfl) (by kernel_rfl)
theorem Tryz.fk250 : FnOk Tryz.prog 250 (some (ofFn Tryz.f250 false noCls)) := fnOk_of Tryz.func250 (by kernel_rfl) (by kernel_rfl) (by kernel_rfl)
theorem Tryz.fk253 : FnOk Tryz.prog 253 (some (ofFn Tryz.f253 false noCls)) := fnOk_of Tryz.func253 (by kernel_rfl) (by kernel_rfl) (by kernel_rfl)
noncomputable def Tryz.cl259 : RT := fun i => bif Nat.beq i 3 then some ⟨none, [0, 0, 0, 0, 0, 0, 0, 0, 0, 0, 1, 1, 0, 0, 0, 0, 0, 1, 1, 2, 0, 0]⟩ else bif Nat.beq i 5 then some ⟨none, [0, 0, 0, 0, 0, 1, 1, 0, 0, 0, 0, 1, 1, 2, 0, 0]⟩ else bif Nat.beq i 6 then some ⟨none, [0, 0, 0, 0, 0, 0, 0, 0, 0, 0, 0, 0, 1, 1, 0, 0, 0, 0, 1, 1, 1, 2, 1, 2]⟩ else none
theorem Tryz.fk259 : FnOk Tryz.prog 259 (some (ofFn Tryz.f259 false Tryz.cl259)) := fnOk_of Tryz.func259 (by kernel_rfl) (by kernel_rfl) (by kernel_rfl)
theorem Tryz.fk260 : FnOk Tryz.prog 260 (some (ofFn Tryz.f260 false noCls)) := fnOk_of Tryz.func260 (by kernel_rfl) (by kernel_rfl) (by kernel_rfl)
noncomputable def Tryz.cl261 : RT := fun i => bif Nat.beq i 1 then some ⟨none, [0, 1, 1, 0, 1, 1, 0, 0, 1, 2]⟩ else bif Nat.beq i 2 then some ⟨none, [0, 1, 1, 0, 1, 1, 0, 0, 1, 2]⟩ else bif Nat.beq i 3 then some ⟨none, [0, 1, 1, 0, 1, 1, 0, 0, 1, 2]⟩ else none
theorem Tryz.fk261 : FnOk Tryz.prog 261 (some (ofFn Tryz.f261 false Tryz.cl261)) := fnOk_of Tryz.func261 (by kernel_rfl) (by kernel_rfl) (by kernel_rfl)
theorem Tryz.fk262 : FnOk Tryz.prog 262 (some (ofFn Tryz.f262 false noCls)) := fnOk_of Tryz.func262 (by kernel_rfl) (by kernel_rfl) (by kernel_rfl)
theorem Tryz.fk263 : FnOk Tryz.prog 263 (some (ofFn Tryz.f263 false noCls)) := fnOk_of Tryz.func263 (by kernel_rfl) (by kernel_rfl) (by kernel_rfl)
theorem Tryz.fk274 : FnOk Tryz.prog 274 (some (ofFn Tryz.f274 false noCls)) := fnOk_of Tryz.func274 (by kernel_rfl) (by kernel_rfl) (by kernel_rfl)
noncomputable def Tryz.cl275 : RT := fun i => bif Nat.beq i 6 then some ⟨none, [0, 0, 0, 0, 0, 0, 0]⟩ else bif Nat.beq i 7 then some ⟨none, [0, 0, 0, 0, 0, 0, 0, 2, 0]⟩ else bif Nat.beq i 14 then some ⟨none, [0, 0, 0, 0, 0, 0, 0, 0, 0, 0, 0]⟩ else bif Nat.beq i 31 then some ⟨none, [0, 0, 0, 0, 0, 0, 0, 0, 0, 0, 0]⟩ else none
theorem Tryz.fk275 : FnOk Tryz.prog 275 (some (ofFn Tryz.f275 false Tryz.cl275)) := fnOk_of Tryz.func275 (by kernel_rfl) (by kernel_rfl) (by kernel_rfl)
noncomputable def Tryz.cl277 : RT := fun i => bif Nat.beq i 20 then some ⟨none, [0, 1, 1, 1, 0, 1, 1, 1, 0, 2, 0, 0, 0, 0, 0]⟩ else none
theorem Tryz.fk277 : FnOk Tryz.prog 277 (some (ofFn Tryz.f277 false Tryz.cl277)) := fnOk_of Tryz.func277 (by kernel_rfl) (by kernel_rfl) (by kernel_rfl)
noncomputable def Tryz.cl278 : RT := fun i => bif Nat.beq i 1 then some ⟨none, [0, 1, 1, 1, 0, 1, 1, 1, 0, 0, 0, 0, 1, 1, 1, 0, 1, 1, 1, 0, 0, 0, 0]⟩ else none
theorem Tryz.fk278 : FnOk Tryz.prog 278 (some (ofFn Tryz.f278 false Tryz.cl278)) := fnOk_of Tryz.func278 (by kernel_rfl) (by kernel_rfl) (by kernel_rfl)
noncomputable def Tryz.cl279 : RT := fun i => bif Nat.beq i 1 then some ⟨none, [0, 0, 1, 1, 1, 1, 0, 2, 1, 1, 2]⟩ else none
theorem Tryz.fk279 : FnOk Tryz.prog 279 (some (ofFn Tryz.f279 false Tryz.cl279)) := fnOk_of Tryz.func279 (by kernel_rfl) (by kernel_rfl) (by kernel_rfl)
noncomputable def Tryz.cl288 : RT := fun i => bif Nat.beq i 1 then some ⟨none, [0, 0, 0, 1, 1, 0, 0, 1, 1, 2, 0]⟩ else none
theorem Tryz.fk288 : FnOk Tryz.prog 288 (some (ofFn Tryz.f288 false Tryz.cl288)) := fnOk_of Tryz.func288 (by kernel_rfl) (by kernel_rfl) (by kernel_rfl)
theorem Tryz.fk300 : FnOk Tryz.prog 300 (some (ofFn Tryz.f300 false noCls)) := fnOk_of Tryz.func300 (by kernel_rfl) (by kernel_rfl) (by kernel_rfl)
theorem Tryz.fk301 : FnOk Tryz.prog 301 (some (ofFn Tryz.f301 false noCls)) := fnOk_of Tryz.func301 (by kernel_rfl) (by kernel_rfl) (by kernel_rfl)
noncomputable def Tryz.cl302 : RT := fun i => bif Nat.beq i 1 then some ⟨none, [0, 1, 1, 1, 0, 1, 1, 1, 0, 2, 0, 0, 0, 0, 0, 0, 0]⟩ else none
theorem Tryz.fk302 : FnOk Tryz.prog 302 (some (ofFn Tryz.f302 false Tryz.cl302)) := fnOk_of Tryz.func302 (by kernel_rfl) (by kernel_rfl) (by kernel_rfl)
noncomputable def Tryz.fn_0 : BT (Option FnC) := .node .nil (some (ofFn Tryz.f127 false noCls)) .nil
theorem Tryz.fl_0 : AllAt (FnOk Tryz.prog) 128 127 Tryz.fn_0 := .mk 256 255 383 rfl rfl rfl (Tryz.fk127) (trivial) (trivial)
noncomputable def Tryz.fn_1 : BT (Option FnC) := .node .nil (some (ofFnD Tryz.f191 true Tryz.cl191 (dfOf Tryz.f191 Tryz.f252 252 8 [.tmp 4, .tmp 5, .tmp 6] 6 noCls))) .nil
theorem Tryz.fl_1 : AllAt (FnOk Tryz.prog) 128 191 Tryz.fn_1 := .mk 256 319 447 rfl rfl rfl (Tryz.fk191) (trivial) (trivial)
noncomputable def Tryz.fn_2 : BT (Option FnC) := .node Tryz.fn_0 (some (ofFn Tryz.f63 false noCls)) Tryz.fn_1
theorem Tryz.fl_2 : AllAt (FnOk Tryz.prog) 64 63 Tryz.fn_2 := .mk 128 127 191 rfl rfl rfl (Tryz.fk63) (Tryz.fl_0) (Tryz.fl_1)
noncomputable def Tryz.fn_3 : BT (Option FnC) := .node .nil (some (ofFn Tryz.f223 false Tryz.cl223)) .nil
theorem Tryz.fl_3 : AllAt (FnOk Tryz.prog) 128 223 Tryz.fn_3 := .mk 256 351 479 rfl rfl rfl (Tryz.fk223) (trivial) (trivial)
noncomputable def Tryz.fn_4 : BT (Option FnC) := .node .nil (some (ofFn Tryz.f95 false noCls)) Tryz.fn_3
theorem Tryz.fl_4 : AllAt (FnOk Tryz.prog) 64 95 Tryz.fn_4 := .mk 128 159 223 rfl rfl rfl (Tryz.fk95) (trivial) (Tryz.fl_3)
noncomputable def Tryz.fn_5 : BT (Option FnC) := .node Tryz.fn_2 none Tryz.fn_4
theorem Tryz.fl_5 : AllAt (FnOk Tryz.prog) 32 31 Tryz.fn_5 := .mk 64 63 95 rfl rfl rfl (trivial) (Tryz.fl_2) (Tryz.fl_4)
noncomputable def Tryz.fn_6 : BT (Option FnC) := .node .nil (some (ofFn Tryz.f207 false Tryz.cl207)) .nil
theorem Tryz.fl_6 : AllAt (FnOk Tryz.prog) 128 207 Tryz.fn_6 := .mk 256 335 463 rfl rfl rfl (Tryz.fk207) (trivial) (trivial)
noncomputable def Tryz.fn_7 : BT (Option FnC) := .node .nil none Tryz.fn_6
theorem Tryz.fl_7 : AllAt (FnOk Tryz.prog) 64 79 Tryz.fn_7 := .mk 128 143 207 rfl rfl rfl (trivial) (trivial) (Tryz.fl_6)
noncomputable def Tryz.fn_8 : BT (Option FnC) := .node .nil (some (ofFn Tryz.f111 false noCls)) .nil
theorem Tryz.fl_8 : AllAt (FnOk Tryz.prog) 64 111 Tryz.fn_8 := .mk 128 175 239 rfl rfl rfl (Tryz.fk111) (trivial) (trivial)
noncomputable def Tryz.fn_9 : BT (Option FnC) := .node Tryz.fn_7 (some (ofFn Tryz.f47 true noCls)) Tryz.fn_8
theorem Tryz.fl_9 : AllAt (FnOk Tryz.prog) 32 47 Tryz.fn_9 := .mk 64 79 111 rfl rfl rfl (Tryz.fk47) (Tryz.fl_7) (Tryz.fl_8)
noncomputable def Tryz.fn_10 : BT (Option FnC) := .node Tryz.fn_5 (some (ofFn Tryz.f15 true Tryz.cl15)) Tryz.fn_9
theorem Tryz.fl_10 : AllAt (FnOk Tryz.prog) 16 15 Tryz.fn_10 := .mk 32 31 47 rfl rfl rfl (Tryz.fk15) (Tryz.fl_5) (Tryz.fl_9)
noncomputable def Tryz.fn_11 : BT (Option FnC) := .node .nil (some (ofFn Tryz.f263 false noCls)) .nil
theorem Tryz.fl_11 : AllAt (FnOk Tryz.prog) 256 263 Tryz.fn_11 := .mk 512 519 775 rfl rfl rfl (Tryz.fk263) (trivial) (trivial)
noncomputable def Tryz.fn_12 : BT (Option FnC) := .node Tryz.fn_11 none .nil
theorem Tryz.fl_12 : AllAt (FnOk Tryz.prog) 128 135 Tryz.fn_12 := .mk 256 263 391 rfl rfl rfl (trivial) (Tryz.fl_11) (trivial)
noncomputable def Tryz.fn_13 : BT (Option FnC) := .node Tryz.fn_12 none .nil
theorem Tryz.fl_13 : AllAt (FnOk Tryz.prog) 64 71 Tryz.fn_13 := .mk 128 135 199 rfl rfl rfl (trivial) (Tryz.fl_12) (trivial)
noncomputable def Tryz.fn_14 : BT (Option FnC) := .node Tryz.fn_13 (some (ofFn Tryz.f39 true noCls)) .nil
theorem Tryz.fl_14 : AllAt (FnOk Tryz.prog) 32 39 Tryz.fn_14 := .mk 64 71 103 rfl rfl rfl (Tryz.fk39) (Tryz.fl_13) (trivial)
noncomputable def Tryz.fn_15 : BT (Option FnC) := .node .nil (some (ofFn Tryz.f279 false Tryz.cl279)) .nil
theorem Tryz.fl_15 : AllAt (FnOk Tryz.prog) 256 279 Tryz.fn_15 := .mk 512 535 791 rfl rfl rfl (Tryz.fk279) (trivial) (trivial)
noncomputable def Tryz.fn_16 : BT (Option FnC) := .node Tryz.fn_15 (some (ofFn Tryz.f151 false Tryz.cl151)) .nil
theorem Tryz.fl_16 : AllAt (FnOk Tryz.prog) 128 151 Tryz.fn_16 := .mk 256 279 407 rfl rfl rfl (Tryz.fk151) (Tryz.fl_15) (trivial)
noncomputable def Tryz.fn_17 : BT (Option FnC) := .node Tryz.fn_16 none .nil
theorem Tryz.fl_17 : AllAt (FnOk Tryz.prog) 64 87 Tryz.fn_17 := .mk 128 151 215 rfl rfl rfl (trivial) (Tryz.fl_16) (trivial)
noncomputable def Tryz.fn_18 : BT (Option FnC) := .node .nil (some (ofFn Tryz.f183 false noCls)) .nil
theorem Tryz.fl_18 : AllAt (FnOk Tryz.prog) 128 183 Tryz.fn_18 := .mk 256 311 439 rfl rfl rfl (Tryz.fk183) (trivial) (trivial)
noncomputable def Tryz.fn_19 : BT (Option FnC) := .node .nil (some (ofFn Tryz.f247 false noCls)) .nil
theorem Tryz.fl_19 : AllAt (FnOk Tryz.prog) 128 247 Tryz.fn_19 := .mk 256 375 503 rfl rfl rfl (Tryz.fk247) (trivial) (trivial)
noncomputable def Tryz.fn_20 : BT (Option FnC) := .node Tryz.fn_18 (some (ofFn Tryz.f119 false noCls)) Tryz.fn_19
theorem Tryz.fl_20 : AllAt (FnOk Tryz.prog) 64 119 Tryz.fn_20 := .mk 128 183 247 rfl rfl rfl (Tryz.fk119) (Tryz.fl_18) (Tryz.fl_19)
noncomputable def Tryz.fn_21 : BT (Option FnC) := .node Tryz.fn_17 (some (ofFn Tryz.f55 false noCls)) Tryz.fn_20
theorem Tryz.fl_21 : AllAt (FnOk Tryz.prog) 32 55 Tryz.fn_21 := .mk 64 87 119 rfl rfl rfl (Tryz.fk55) (Tryz.fl_17) (Tryz.fl_20)
noncomputable def Tryz.fn_22 : BT (Option FnC) := .node Tryz.fn_14 none Tryz.fn_21
theorem Tryz.fl_22 : AllAt (FnOk Tryz.prog) 16 23 Tryz.fn_22 := .mk 32 39 55 rfl rfl rfl (trivial) (Tryz.fl_14) (Tryz.fl_21)
noncomputable def Tryz.fn_23 : BT (Option FnC) := .node Tryz.fn_10 (some (ofFn Tryz.f7 true noCls)) Tryz.fn_22
theorem Tryz.fl_23 : AllAt (FnOk Tryz.prog) 8 7 Tryz.fn_23 := .mk 16 15 23 rfl rfl rfl (Tryz.fk7) (Tryz.fl_10) (Tryz.fl_22)
noncomputable def Tryz.fn_24 : BT (Option FnC) := .node .nil (some (ofFn Tryz.f259 false Tryz.cl259)) .nil
theorem Tryz.fl_24 : AllAt (FnOk Tryz.prog) 256 259 Tryz.fn_24 := .mk 512 515 771 rfl rfl rfl (Tryz.fk259) (trivial) (trivial)
noncomputable def Tryz.fn_25 : BT (Option FnC) := .node Tryz.fn_24 none .nil
theorem Tryz.fl_25 : AllAt (FnOk Tryz.prog) 128 131 Tryz.fn_25 := .mk 256 259 387 rfl rfl rfl (trivial) (Tryz.fl_24) (trivial)
noncomputable def Tryz.fn_26 : BT (Option FnC) := .node Tryz.fn_25 none .nil
theorem Tryz.fl_26 : AllAt (FnOk Tryz.prog) 64 67 Tryz.fn_26 := .mk 128 131 195 rfl rfl rfl (trivial) (Tryz.fl_25) (trivial)
noncomputable def Tryz.fn_27 : BT (Option FnC) := .node .nil (some (ofFn Tryz.f163 false noCls)) .nil
theorem Tryz.fl_27 : AllAt (FnOk Tryz.prog) 128 163 Tryz.fn_27 := .mk 256 291 419 rfl rfl rfl (Tryz.fk163) (trivial) (trivial)
noncomputable def Tryz.fn_28 : BT (Option FnC) := .node .nil (some (ofFn Tryz.f227 false Tryz.cl227)) .nil
theorem Tryz.fl_28 : AllAt (FnOk Tryz.prog) 128 227 Tryz.fn_28 := .mk 256 355 483 rfl rfl rfl (Tryz.fk227) (trivial) (trivial)
noncomputable def Tryz.fn_29 : BT (Option FnC) := .node Tryz.fn_27 (some (ofFn Tryz.f99 false noCls)) Tryz.fn_28
theorem Tryz.fl_29 : AllAt (FnOk Tryz.prog) 64 99 Tryz.fn_29 := .mk 128 163 227 rfl rfl rfl (Tryz.fk99) (Tryz.fl_27) (Tryz.fl_28)
noncomputable def Tryz.fn_30 : BT (Option FnC) := .node Tryz.fn_26 none Tryz.fn_29
theorem Tryz.fl_30 : AllAt (FnOk Tryz.prog) 32 35 Tryz.fn_30 := .mk 64 67 99 rfl rfl rfl (trivial) (Tryz.fl_26) (Tryz.fl_29)
noncomputable def Tryz.fn_31 : BT (Option FnC) := .node .nil (some (ofFn Tryz.f275 false Tryz.cl275)) .nil
theorem Tryz.fl_31 : AllAt (FnOk Tryz.prog) 256 275 Tryz.fn_31 := .mk 512 531 787 rfl rfl rfl (Tryz.fk275) (trivial) (trivial)
noncomputable def Tryz.fn_32 : BT (Option FnC) := .node Tryz.fn_31 (some (ofFn Tryz.f147 false Tryz.cl147)) .nil
theorem Tryz.fl_32 : AllAt (FnOk Tryz.prog) 128 147 Tryz.fn_32 := .mk 256 275 403 rfl rfl rfl (Tryz.fk147) (Tryz.fl_31) (trivial)
noncomputable def Tryz.fn_33 : BT (Option FnC) := .node Tryz.fn_32 (some (ofFn Tryz.f83 false noCls)) .nil
theorem Tryz.fl_33 : AllAt (FnOk Tryz.prog) 64 83 Tryz.fn_33 := .mk 128 147 211 rfl rfl rfl (Tryz.fk83) (Tryz.fl_32) (trivial)
noncomputable def Tryz.fn_34 : BT (Option FnC) := .node .nil (some (ofFn Tryz.f243 false noCls)) .nil
theorem Tryz.fl_34 : AllAt (FnOk Tryz.prog) 128 243 Tryz.fn_34 := .mk 256 371 499 rfl rfl rfl (Tryz.fk243) (trivial) (trivial)
noncomputable def Tryz.fn_35 : BT (Option FnC) := .node .nil none Tryz.fn_34
theorem Tryz.fl_35 : AllAt (FnOk Tryz.prog) 64 115 Tryz.fn_35 := .mk 128 179 243 rfl rfl rfl (trivial) (trivial) (Tryz.fl_34)
noncomputable def Tryz.fn_36 : BT (Option FnC) := .node Tryz.fn_33 none Tryz.fn_35
theorem Tryz.fl_36 : AllAt (FnOk Tryz.prog) 32 51 Tryz.fn_36 := .mk 64 83 115 rfl rfl rfl (trivial) (Tryz.fl_33) (Tryz.fl_35)
noncomputable def Tryz.fn_37 : BT (Option FnC) := .node Tryz.fn_30 none Tryz.fn_36
theorem Tryz.fl_37 : AllAt (FnOk Tryz.prog) 16 19 Tryz.fn_37 := .mk 32 35 51 rfl rfl rfl (trivial) (Tryz.fl_30) (Tryz.fl_36)
noncomputable def Tryz.fn_38 : BT (Option FnC) := .node .nil (some (ofFn Tryz.f139 false Tryz.cl139)) .nil
theorem Tryz.fl_38 : AllAt (FnOk Tryz.prog) 128 139 Tryz.fn_38 := .mk 256 267 395 rfl rfl rfl (Tryz.fk139) (trivial) (trivial)
noncomputable def Tryz.fn_39 : BT (Option FnC) := .node .nil (some (ofFn Tryz.f203 false noCls)) .nil
theorem Tryz.fl_39 : AllAt (FnOk Tryz.prog) 128 203 Tryz.fn_39 := .mk 256 331 459 rfl rfl rfl (Tryz.fk203) (trivial) (trivial)
noncomputable def Tryz.fn_40 : BT (Option FnC) := .node Tryz.fn_38 none Tryz.fn_39
theorem Tryz.fl_40 : AllAt (FnOk Tryz.prog) 64 75 Tryz.fn_40 := .mk 128 139 203 rfl rfl rfl (trivial) (Tryz.fl_38) (Tryz.fl_39)
noncomputable def Tryz.fn_41 : BT (Option FnC) := .node .nil (some (ofFn Tryz.f107 false Tryz.cl107)) .nil
theorem Tryz.fl_41 : AllAt (FnOk Tryz.prog) 64 107 Tryz.fn_41 := .mk 128 171 235 rfl rfl rfl (Tryz.fk107) (trivial) (trivial)
noncomputable def Tryz.fn_42 : BT (Option FnC) := .node Tryz.fn_40 (some (ofFn Tryz.f43 true noCls)) Tryz.fn_41
theorem Tryz.fl_42 : AllAt (FnOk Tryz.prog) 32 43 Tryz.fn_42 := .mk 64 75 107 rfl rfl rfl (Tryz.fk43) (Tryz.fl_40) (Tryz.fl_41)
noncomputable def Tryz.fn_43 : BT (Option FnC) := .node .nil (some (ofFn Tryz.f219 false noCls)) .nil
theorem Tryz.fl_43 : AllAt (FnOk Tryz.prog) 128 219 Tryz.fn_43 := .mk 256 347 475 rfl rfl rfl (Tryz.fk219) (trivial) (trivial)
noncomputable def Tryz.fn_44 : BT (Option FnC) := .node .nil (some (ofFn Tryz.f91 false noCls)) Tryz.fn_43
theorem Tryz.fl_44 : AllAt (FnOk Tryz.prog) 64 91 Tryz.fn_44 := .mk 128 155 219 rfl rfl rfl (Tryz.fk91) (trivial) (Tryz.fl_43)
noncomputable def Tryz.fn_45 : BT (Option FnC) := .node .nil (some (ofFn Tryz.f123 false noCls)) .nil
theorem Tryz.fl_45 : AllAt (FnOk Tryz.prog) 64 123 Tryz.fn_45 := .mk 128 187 251 rfl rfl rfl (Tryz.fk123) (trivial) (trivial)
noncomputable def Tryz.fn_46 : BT (Option FnC) := .node Tryz.fn_44 (some (ofFn Tryz.f59 false noCls)) Tryz.fn_45
theorem Tryz.fl_46 : AllAt (FnOk Tryz.prog) 32 59 Tryz.fn_46 := .mk 64 91 123 rfl rfl rfl (Tryz.fk59) (Tryz.fl_44) (Tryz.fl_45)
noncomputable def Tryz.fn_47 : BT (Option FnC) := .node Tryz.fn_42 none Tryz.fn_46
theorem Tryz.fl_47 : AllAt (FnOk Tryz.prog) 16 27 Tryz.fn_47 := .mk 32 43 59 rfl rfl rfl (trivial) (Tryz.fl_42) (Tryz.fl_46)
noncomputable def Tryz.fn_48 : BT (Option FnC) := .node Tryz.fn_37 (some (ofFn Tryz.f11 true Tryz.cl11)) Tryz.fn_47
theorem Tryz.fl_48 : AllAt (FnOk Tryz.prog) 8 11 Tryz.fn_48 := .mk 16 19 27 rfl rfl rfl (Tryz.fk11) (Tryz.fl_37) (Tryz.fl_47)
noncomputable def Tryz.fn_49 : BT (Option FnC) := .node Tryz.fn_23 none Tryz.fn_48
theorem Tryz.fl_49 : AllAt (FnOk Tryz.prog) 4 3 Tryz.fn_49 := .mk 8 7 11 rfl rfl rfl (trivial) (Tryz.fl_23) (Tryz.fl_48)
noncomputable def Tryz.fn_50 : BT (Option FnC) := .node .nil (some (ofFn Tryz.f129 false noCls)) .nil
theorem Tryz.fl_50 : AllAt (FnOk Tryz.prog) 128 129 Tryz.fn_50 := .mk 256 257 385 rfl rfl rfl (Tryz.fk129) (trivial) (trivial)
noncomputable def Tryz.fn_51 : BT (Option FnC) := .node Tryz.fn_50 (some (ofFn Tryz.f65 false noCls)) .nil
theorem Tryz.fl_51 : AllAt (FnOk Tryz.prog) 64 65 Tryz.fn_51 := .mk 128 129 193 rfl rfl rfl (Tryz.fk65) (Tryz.fl_50) (trivial)
noncomputable def Tryz.fn_52 : BT (Option FnC) := .node .nil (some (ofFn Tryz.f161 false noCls)) .nil
theorem Tryz.fl_52 : AllAt (FnOk Tryz.prog) 128 161 Tryz.fn_52 := .mk 256 289 417 rfl rfl rfl (Tryz.fk161) (trivial) (trivial)
noncomputable def Tryz.fn_53 : BT (Option FnC) := .node .nil (some (ofFn Tryz.f225 false noCls)) .nil
theorem Tryz.fl_53 : AllAt (FnOk Tryz.prog) 128 225 Tryz.fn_53 := .mk 256 353 481 rfl rfl rfl (Tryz.fk225) (trivial) (trivial)
noncomputable def Tryz.fn_54 : BT (Option FnC) := .node Tryz.fn_52 (some (ofFn Tryz.f97 false Tryz.cl97)) Tryz.fn_53
theorem Tryz.fl_54 : AllAt (FnOk Tryz.prog) 64 97 Tryz.fn_54 := .mk 128 161 225 rfl rfl rfl (Tryz.fk97) (Tryz.fl_52) (Tryz.fl_53)
noncomputable def Tryz.fn_55 : BT (Option FnC) := .node Tryz.fn_51 none Tryz.fn_54
theorem Tryz.fl_55 : AllAt (FnOk Tryz.prog) 32 33 Tryz.fn_55 := .mk 64 65 97 rfl rfl rfl (trivial) (Tryz.fl_51) (Tryz.fl_54)
noncomputable def Tryz.fn_56 : BT (Option FnC) := .node .nil (some (ofFn Tryz.f145 false noCls)) .nil
theorem Tryz.fl_56 : AllAt (FnOk Tryz.prog) 128 145 Tryz.fn_56 := .mk 256 273 401 rfl rfl rfl (Tryz.fk145) (trivial) (trivial)
noncomputable def Tryz.fn_57 : BT (Option FnC) := .node Tryz.fn_56 none .nil
theorem Tryz.fl_57 : AllAt (FnOk Tryz.prog) 64 81 Tryz.fn_57 := .mk 128 145 209 rfl rfl rfl (trivial) (Tryz.fl_56) (trivial)
noncomputable def Tryz.fn_58 : BT (Option FnC) := .node .nil (some (ofFn Tryz.f177 false noCls)) .nil
theorem Tryz.fl_58 : AllAt (FnOk Tryz.prog) 128 177 Tryz.fn_58 := .mk 256 305 433 rfl rfl rfl (Tryz.fk177) (trivial) (trivial)
noncomputable def Tryz.fn_59 : BT (Option FnC) := .node Tryz.fn_58 (some (ofFn Tryz.f113 false Tryz.cl113)) .nil
theorem Tryz.fl_59 : AllAt (FnOk Tryz.prog) 64 113 Tryz.fn_59 := .mk 128 177 241 rfl rfl rfl (Tryz.fk113) (Tryz.fl_58) (trivial)
noncomputable def Tryz.fn_60 : BT (Option FnC) := .node Tryz.fn_57 none Tryz.fn_59
theorem Tryz.fl_60 : AllAt (FnOk Tryz.prog) 32 49 Tryz.fn_60 := .mk 64 81 113 rfl rfl rfl (trivial) (Tryz.fl_57) (Tryz.fl_59)
noncomputable def Tryz.fn_61 : BT (Option FnC) := .node Tryz.fn_55 none Tryz.fn_60
theorem Tryz.fl_61 : AllAt (FnOk Tryz.prog) 16 17 Tryz.fn_61 := .mk 32 33 49 rfl rfl rfl (trivial) (Tryz.fl_55) (Tryz.fl_60)
noncomputable def Tryz.fn_62 : BT (Option FnC) := .node .nil (some (ofFn Tryz.f137 false noCls)) .nil
theorem Tryz.fl_62 : AllAt (FnOk Tryz.prog) 128 137 Tryz.fn_62 := .mk 256 265 393 rfl rfl rfl (Tryz.fk137) (trivial) (trivial)
noncomputable def Tryz.fn_63 : BT (Option FnC) := .node .nil (some (ofFn Tryz.f201 false noCls)) .nil
theorem Tryz.fl_63 : AllAt (FnOk Tryz.prog) 128 201 Tryz.fn_63 := .mk 256 329 457 rfl rfl rfl (Tryz.fk201) (trivial) (trivial)
noncomputable def Tryz.fn_64 : BT (Option FnC) := .node Tryz.fn_62 none Tryz.fn_63
theorem Tryz.fl_64 : AllAt (FnOk Tryz.prog) 64 73 Tryz.fn_64 := .mk 128 137 201 rfl rfl rfl (trivial) (Tryz.fl_62) (Tryz.fl_63)
noncomputable def Tryz.fn_65 : BT (Option FnC) := .node .nil (some (ofFn Tryz.f169 false noCls)) .nil
theorem Tryz.fl_65 : AllAt (FnOk Tryz.prog) 128 169 Tryz.fn_65 := .mk 256 297 425 rfl rfl rfl (Tryz.fk169) (trivial) (trivial)
noncomputable def Tryz.fn_66 : BT (Option FnC) := .node .nil (some (ofFn Tryz.f233 false noCls)) .nil
theorem Tryz.fl_66 : AllAt (FnOk Tryz.prog) 128 233 Tryz.fn_66 := .mk 256 361 489 rfl rfl rfl (Tryz.fk233) (trivial) (trivial)
noncomputable def Tryz.fn_67 : BT (Option FnC) := .node Tryz.fn_65 none Tryz.fn_66
theorem Tryz.fl_67 : AllAt (FnOk Tryz.prog) 64 105 Tryz.fn_67 := .mk 128 169 233 rfl rfl rfl (trivial) (Tryz.fl_65) (Tryz.fl_66)
noncomputable def Tryz.fn_68 : BT (Option FnC) := .node Tryz.fn_64 none Tryz.fn_67
theorem Tryz.fl_68 : AllAt (FnOk Tryz.prog) 32 41 Tryz.fn_68 := .mk 64 73 105 rfl rfl rfl (trivial) (Tryz.fl_64) (Tryz.fl_67)
noncomputable def Tryz.fn_69 : BT (Option FnC) := .node .nil (some (ofFn Tryz.f217 false Tryz.cl217)) .nil
theorem Tryz.fl_69 : AllAt (FnOk Tryz.prog) 128 217 Tryz.fn_69 := .mk 256 345 473 rfl rfl rfl (Tryz.fk217) (trivial) (trivial)
noncomputable def Tryz.fn_70 : BT (Option FnC) := .node .nil none Tryz.fn_69
theorem Tryz.fl_70 : AllAt (FnOk Tryz.prog) 64 89 Tryz.fn_70 := .mk 128 153 217 rfl rfl rfl (trivial) (trivial) (Tryz.fl_69)
noncomputable def Tryz.fn_71 : BT (Option FnC) := .node .nil (some (ofFn Tryz.f249 false noCls)) .nil
theorem Tryz.fl_71 : AllAt (FnOk Tryz.prog) 128 249 Tryz.fn_71 := .mk 256 377 505 rfl rfl rfl (Tryz.fk249) (trivial) (trivial)
noncomputable def Tryz.fn_72 : BT (Option FnC) := .node .nil none Tryz.fn_71
theorem Tryz.fl_72 : AllAt (FnOk Tryz.prog) 64 121 Tryz.fn_72 := .mk 128 185 249 rfl rfl rfl (trivial) (trivial) (Tryz.fl_71)
noncomputable def Tryz.fn_73 : BT (Option FnC) := .node Tryz.fn_70 (some (ofFn Tryz.f57 false noCls)) Tryz.fn_72
theorem Tryz.fl_73 : AllAt (FnOk Tryz.prog) 32 57 Tryz.fn_73 := .mk 64 89 121 rfl rfl rfl (Tryz.fk57) (Tryz.fl_70) (Tryz.fl_72)
noncomputable def Tryz.fn_74 : BT (Option FnC) := .node Tryz.fn_68 none Tryz.fn_73
theorem Tryz.fl_74 : AllAt (FnOk Tryz.prog) 16 25 Tryz.fn_74 := .mk 32 41 57 rfl rfl rfl (trivial) (Tryz.fl_68) (Tryz.fl_73)
noncomputable def Tryz.fn_75 : BT (Option FnC) := .node Tryz.fn_61 none Tryz.fn_74
theorem Tryz.fl_75 : AllAt (FnOk Tryz.prog) 8 9 Tryz.fn_75 := .mk 16 17 25 rfl rfl rfl (trivial) (Tryz.fl_61) (Tryz.fl_74)
noncomputable def Tryz.fn_76 : BT (Option FnC) := .node .nil (some (ofFn Tryz.f261 false Tryz.cl261)) .nil
theorem Tryz.fl_76 : AllAt (FnOk Tryz.prog) 256 261 Tryz.fn_76 := .mk 512 517 773 rfl rfl rfl (Tryz.fk261) (trivial) (trivial)
noncomputable def Tryz.fn_77 : BT (Option FnC) := .node Tryz.fn_76 none .nil
theorem Tryz.fl_77 : AllAt (FnOk Tryz.prog) 128 133 Tryz.fn_77 := .mk 256 261 389 rfl rfl rfl (trivial) (Tryz.fl_76) (trivial)
noncomputable def Tryz.fn_78 : BT (Option FnC) := .node .nil (some (ofFn Tryz.f197 false noCls)) .nil
theorem Tryz.fl_78 : AllAt (FnOk Tryz.prog) 128 197 Tryz.fn_78 := .mk 256 325 453 rfl rfl rfl (Tryz.fk197) (trivial) (trivial)
noncomputable def Tryz.fn_79 : BT (Option FnC) := .node Tryz.fn_77 none Tryz.fn_78
theorem Tryz.fl_79 : AllAt (FnOk Tryz.prog) 64 69 Tryz.fn_79 := .mk 128 133 197 rfl rfl rfl (trivial) (Tryz.fl_77) (Tryz.fl_78)
noncomputable def Tryz.fn_80 : BT (Option FnC) := .node .nil (some (ofFn Tryz.f165 false noCls)) .nil
theorem Tryz.fl_80 : AllAt (FnOk Tryz.prog) 128 165 Tryz.fn_80 := .mk 256 293 421 rfl rfl rfl (Tryz.fk165) (trivial) (trivial)
noncomputable def Tryz.fn_81 : BT (Option FnC) := .node Tryz.fn_80 (some (ofFn Tryz.f101 false noCls)) .nil
theorem Tryz.fl_81 : AllAt (FnOk Tryz.prog) 64 101 Tryz.fn_81 := .mk 128 165 229 rfl rfl rfl (Tryz.fk101) (Tryz.fl_80) (trivial)
noncomputable def Tryz.fn_82 : BT (Option FnC) := .node Tryz.fn_79 (some (ofFn Tryz.f37 true noCls)) Tryz.fn_81
theorem Tryz.fl_82 : AllAt (FnOk Tryz.prog) 32 37 Tryz.fn_82 := .mk 64 69 101 rfl rfl rfl (Tryz.fk37) (Tryz.fl_79) (Tryz.fl_81)
noncomputable def Tryz.fn_83 : BT (Option FnC) := .node .nil (some (ofFn Tryz.f277 false Tryz.cl277)) .nil
theorem Tryz.fl_83 : AllAt (FnOk Tryz.prog) 256 277 Tryz.fn_83 := .mk 512 533 789 rfl rfl rfl (Tryz.fk277) (trivial) (trivial)
noncomputable def Tryz.fn_84 : BT (Option FnC) := .node Tryz.fn_83 (some (ofFn Tryz.f149 false noCls)) .nil
theorem Tryz.fl_84 : AllAt (FnOk Tryz.prog) 128 149 Tryz.fn_84 := .mk 256 277 405 rfl rfl rfl (Tryz.fk149) (Tryz.fl_83) (trivial)
noncomputable def Tryz.fn_85 : BT (Option FnC) := .node Tryz.fn_84 none .nil
theorem Tryz.fl_85 : AllAt (FnOk Tryz.prog) 64 85 Tryz.fn_85 := .mk 128 149 213 rfl rfl rfl (trivial) (Tryz.fl_84) (trivial)
noncomputable def Tryz.fn_86 : BT (Option FnC) := .node .nil (some (ofFn Tryz.f181 false noCls)) .nil
theorem Tryz.fl_86 : AllAt (FnOk Tryz.prog) 128 181 Tryz.fn_86 := .mk 256 309 437 rfl rfl rfl (Tryz.fk181) (trivial) (trivial)
noncomputable def Tryz.fn_87 : BT (Option FnC) := .node .nil (some (ofFn Tryz.f245 false noCls)) .nil
theorem Tryz.fl_87 : AllAt (FnOk Tryz.prog) 128 245 Tryz.fn_87 := .mk 256 373 501 rfl rfl rfl (Tryz.fk245) (trivial) (trivial)
noncomputable def Tryz.fn_88 : BT (Option FnC) := .node Tryz.fn_86 none Tryz.fn_87
theorem Tryz.fl_88 : AllAt (FnOk Tryz.prog) 64 117 Tryz.fn_88 := .mk 128 181 245 rfl rfl rfl (trivial) (Tryz.fl_86) (Tryz.fl_87)
noncomputable def Tryz.fn_89 : BT (Option FnC) := .node Tryz.fn_85 (some (ofFn Tryz.f53 false Tryz.cl53)) Tryz.fn_88
theorem Tryz.fl_89 : AllAt (FnOk Tryz.prog) 32 53 Tryz.fn_89 := .mk 64 85 117 rfl rfl rfl (Tryz.fk53) (Tryz.fl_85) (Tryz.fl_88)
noncomputable def Tryz.fn_90 : BT (Option FnC) := .node Tryz.fn_82 none Tryz.fn_89
theorem Tryz.fl_90 : AllAt (FnOk Tryz.prog) 16 21 Tryz.fn_90 := .mk 32 37 53 rfl rfl rfl (trivial) (Tryz.fl_82) (Tryz.fl_89)
noncomputable def Tryz.fn_91 : BT (Option FnC) := .node .nil (some (ofFn Tryz.f205 false noCls)) .nil
theorem Tryz.fl_91 : AllAt (FnOk Tryz.prog) 128 205 Tryz.fn_91 := .mk 256 333 461 rfl rfl rfl (Tryz.fk205) (trivial) (trivial)
noncomputable def Tryz.fn_92 : BT (Option FnC) := .node .nil (some (ofFn Tryz.f77 false noCls)) Tryz.fn_91
theorem Tryz.fl_92 : AllAt (FnOk Tryz.prog) 64 77 Tryz.fn_92 := .mk 128 141 205 rfl rfl rfl (Tryz.fk77) (trivial) (Tryz.fl_91)
noncomputable def Tryz.fn_93 : BT (Option FnC) := .node .nil (some (ofFn Tryz.f301 false noCls)) .nil
theorem Tryz.fl_93 : AllAt (FnOk Tryz.prog) 256 301 Tryz.fn_93 := .mk 512 557 813 rfl rfl rfl (Tryz.fk301) (trivial) (trivial)
noncomputable def Tryz.fn_94 : BT (Option FnC) := .node Tryz.fn_93 none .nil
theorem Tryz.fl_94 : AllAt (FnOk Tryz.prog) 128 173 Tryz.fn_94 := .mk 256 301 429 rfl rfl rfl (trivial) (Tryz.fl_93) (trivial)
noncomputable def Tryz.fn_95 : BT (Option FnC) := .node Tryz.fn_94 (some (ofFn Tryz.f109 false noCls)) .nil
theorem Tryz.fl_95 : AllAt (FnOk Tryz.prog) 64 109 Tryz.fn_95 := .mk 128 173 237 rfl rfl rfl (Tryz.fk109) (Tryz.fl_94) (trivial)
noncomputable def Tryz.fn_96 : BT (Option FnC) := .node Tryz.fn_92 (some (ofFn Tryz.f45 false noCls)) Tryz.fn_95
theorem Tryz.fl_96 : AllAt (FnOk Tryz.prog) 32 45 Tryz.fn_96 := .mk 64 77 109 rfl rfl rfl (Tryz.fk45) (Tryz.fl_92) (Tryz.fl_95)
noncomputable def Tryz.fn_97 : BT (Option FnC) := .node .nil (some (ofFn Tryz.f157 false Tryz.cl157)) .nil
theorem Tryz.fl_97 : AllAt (FnOk Tryz.prog) 128 157 Tryz.fn_97 := .mk 256 285 413 rfl rfl rfl (Tryz.fk157) (trivial) (trivial)
noncomputable def Tryz.fn_98 : BT (Option FnC) := .node .nil (some (ofFn Tryz.f221 false Tryz.cl221)) .nil
theorem Tryz.fl_98 : AllAt (FnOk Tryz.prog) 128 221 Tryz.fn_98 := .mk 256 349 477 rfl rfl rfl (Tryz.fk221) (trivial) (trivial)
noncomputable def Tryz.fn_99 : BT (Option FnC) := .node Tryz.fn_97 (some (ofFn Tryz.f93 false noCls)) Tryz.fn_98
theorem Tryz.fl_99 : AllAt (FnOk Tryz.prog) 64 93 Tryz.fn_99 := .mk 128 157 221 rfl rfl rfl (Tryz.fk93) (Tryz.fl_97) (Tryz.fl_98)
noncomputable def Tryz.fn_100 : BT (Option FnC) := .node .nil (some (ofFn Tryz.f189 false noCls)) .nil
theorem Tryz.fl_100 : AllAt (FnOk Tryz.prog) 128 189 Tryz.fn_100 := .mk 256 317 445 rfl rfl rfl (Tryz.fk189) (trivial) (trivial)
noncomputable def Tryz.fn_101 : BT (Option FnC) := .node .nil (some (ofFn Tryz.f253 false noCls)) .nil
theorem Tryz.fl_101 : AllAt (FnOk Tryz.prog) 128 253 Tryz.fn_101 := .mk 256 381 509 rfl rfl rfl (Tryz.fk253) (trivial) (trivial)
noncomputable def Tryz.fn_102 : BT (Option FnC) := .node Tryz.fn_100 (some (ofFn Tryz.f125 false Tryz.cl125)) Tryz.fn_101
theorem Tryz.fl_102 : AllAt (FnOk Tryz.prog) 64 125 Tryz.fn_102 := .mk 128 189 253 rfl rfl rfl (Tryz.fk125) (Tryz.fl_100) (Tryz.fl_101)
noncomputable def Tryz.fn_103 : BT (Option FnC) := .node Tryz.fn_99 (some (ofFn Tryz.f61 false noCls)) Tryz.fn_102
theorem Tryz.fl_103 : AllAt (FnOk Tryz.prog) 32 61 Tryz.fn_103 := .mk 64 93 125 rfl rfl rfl (Tryz.fk61) (Tryz.fl_99) (Tryz.fl_102)
noncomputable def Tryz.fn_104 : BT (Option FnC) := .node Tryz.fn_96 none Tryz.fn_103
theorem Tryz.fl_104 : AllAt (FnOk Tryz.prog) 16 29 Tryz.fn_104 := .mk 32 45 61 rfl rfl rfl (trivial) (Tryz.fl_96) (Tryz.fl_103)
noncomputable def Tryz.fn_105 : BT (Option FnC) := .node Tryz.fn_90 (some (ofFn Tryz.f13 true Tryz.cl13)) Tryz.fn_104
theorem Tryz.fl_105 : AllAt (FnOk Tryz.prog) 8 13 Tryz.fn_105 := .mk 16 21 29 rfl rfl rfl (Tryz.fk13) (Tryz.fl_90) (Tryz.fl_104)
noncomputable def Tryz.fn_106 : BT (Option FnC) := .node Tryz.fn_75 none Tryz.fn_105
theorem Tryz.fl_106 : AllAt (FnOk Tryz.prog) 4 5 Tryz.fn_106 := .mk 8 9 13 rfl rfl rfl (trivial) (Tryz.fl_75) (Tryz.fl_105)
noncomputable def Tryz.fn_107 : BT (Option FnC) := .node Tryz.fn_49 none Tryz.fn_106
theorem Tryz.fl_107 : AllAt (FnOk Tryz.prog) 2 1 Tryz.fn_107 := .mk 4 3 5 rfl rfl rfl (trivial) (Tryz.fl_49) (Tryz.fl_106)
noncomputable def Tryz.fn_108 : BT (Option FnC) := .node .nil (some (ofFn Tryz.f128 false noCls)) .nil
theorem Tryz.fl_108 : AllAt (FnOk Tryz.prog) 128 128 Tryz.fn_108 := .mk 256 256 384 rfl rfl rfl (Tryz.fk128) (trivial) (trivial)
noncomputable def Tryz.fn_109 : BT (Option FnC) := .node Tryz.fn_108 (some (ofFn Tryz.f64 false noCls)) .nil
theorem Tryz.fl_109 : AllAt (FnOk Tryz.prog) 64 64 Tryz.fn_109 := .mk 128 128 192 rfl rfl rfl (Tryz.fk64) (Tryz.fl_108) (trivial)
noncomputable def Tryz.fn_110 : BT (Option FnC) := .node .nil (some (ofFn Tryz.f288 false Tryz.cl288)) .nil
theorem Tryz.fl_110 : AllAt (FnOk Tryz.prog) 256 288 Tryz.fn_110 := .mk 512 544 800 rfl rfl rfl (Tryz.fk288) (trivial) (trivial)
noncomputable def Tryz.fn_111 : BT (Option FnC) := .node Tryz.fn_110 (some (ofFn Tryz.f160 false noCls)) .nil
theorem Tryz.fl_111 : AllAt (FnOk Tryz.prog) 128 160 Tryz.fn_111 := .mk 256 288 416 rfl rfl rfl (Tryz.fk160) (Tryz.fl_110) (trivial)
noncomputable def Tryz.fn_112 : BT (Option FnC) := .node .nil (some (ofFn Tryz.f224 false noCls)) .nil
theorem Tryz.fl_112 : AllAt (FnOk Tryz.prog) 128 224 Tryz.fn_112 := .mk 256 352 480 rfl rfl rfl (Tryz.fk224) (trivial) (trivial)
noncomputable def Tryz.fn_113 : BT (Option FnC) := .node Tryz.fn_111 (some (ofFn Tryz.f96 false noCls)) Tryz.fn_112
theorem Tryz.fl_113 : AllAt (FnOk Tryz.prog) 64 96 Tryz.fn_113 := .mk 128 160 224 rfl rfl rfl (Tryz.fk96) (Tryz.fl_111) (Tryz.fl_112)
noncomputable def Tryz.fn_114 : BT (Option FnC) := .node Tryz.fn_109 none Tryz.fn_113
theorem Tryz.fl_114 : AllAt (FnOk Tryz.prog) 32 32 Tryz.fn_114 := .mk 64 64 96 rfl rfl rfl (trivial) (Tryz.fl_109) (Tryz.fl_113)
noncomputable def Tryz.fn_115 : BT (Option FnC) := .node .nil (some (ofFn Tryz.f144 false noCls)) .nil
theorem Tryz.fl_115 : AllAt (FnOk Tryz.prog) 128 144 Tryz.fn_115 := .mk 256 272 400 rfl rfl rfl (Tryz.fk144) (trivial) (trivial)
noncomputable def Tryz.fn_116 : BT (Option FnC) := .node .nil (some (ofFn Tryz.f208 false Tryz.cl208)) .nil
theorem Tryz.fl_116 : AllAt (FnOk Tryz.prog) 128 208 Tryz.fn_116 := .mk 256 336 464 rfl rfl rfl (Tryz.fk208) (trivial) (trivial)
noncomputable def Tryz.fn_117 : BT (Option FnC) := .node Tryz.fn_115 none Tryz.fn_116
theorem Tryz.fl_117 : AllAt (FnOk Tryz.prog) 64 80 Tryz.fn_117 := .mk 128 144 208 rfl rfl rfl (trivial) (Tryz.fl_115) (Tryz.fl_116)
noncomputable def Tryz.fn_118 : BT (Option FnC) := .node .nil (some (ofFn Tryz.f176 false noCls)) .nil
theorem Tryz.fl_118 : AllAt (FnOk Tryz.prog) 128 176 Tryz.fn_118 := .mk 256 304 432 rfl rfl rfl (Tryz.fk176) (trivial) (trivial)
noncomputable def Tryz.fn_119 : BT (Option FnC) := .node Tryz.fn_118 (some (ofFn Tryz.f112 false Tryz.cl112)) .nil
theorem Tryz.fl_119 : AllAt (FnOk Tryz.prog) 64 112 Tryz.fn_119 := .mk 128 176 240 rfl rfl rfl (Tryz.fk112) (Tryz.fl_118) (trivial)
noncomputable def Tryz.fn_120 : BT (Option FnC) := .node Tryz.fn_117 none Tryz.fn_119
theorem Tryz.fl_120 : AllAt (FnOk Tryz.prog) 32 48 Tryz.fn_120 := .mk 64 80 112 rfl rfl rfl (trivial) (Tryz.fl_117) (Tryz.fl_119)
noncomputable def Tryz.fn_121 : BT (Option FnC) := .node Tryz.fn_114 none Tryz.fn_120
theorem Tryz.fl_121 : AllAt (FnOk Tryz.prog) 16 16 Tryz.fn_121 := .mk 32 32 48 rfl rfl rfl (trivial) (Tryz.fl_114) (Tryz.fl_120)
noncomputable def Tryz.fn_122 : BT (Option FnC) := .node .nil (some (ofFn Tryz.f232 false Tryz.cl232)) .nil
theorem Tryz.fl_122 : AllAt (FnOk Tryz.prog) 128 232 Tryz.fn_122 := .mk 256 360 488 rfl rfl rfl (Tryz.fk232) (trivial) (trivial)
noncomputable def Tryz.fn_123 : BT (Option FnC) := .node .nil none Tryz.fn_122
theorem Tryz.fl_123 : AllAt (FnOk Tryz.prog) 64 104 Tryz.fn_123 := .mk 128 168 232 rfl rfl rfl (trivial) (trivial) (Tryz.fl_122)
noncomputable def Tryz.fn_124 : BT (Option FnC) := .node .nil none Tryz.fn_123
theorem Tryz.fl_124 : AllAt (FnOk Tryz.prog) 32 40 Tryz.fn_124 := .mk 64 72 104 rfl rfl rfl (trivial) (trivial) (Tryz.fl_123)
noncomputable def Tryz.fn_125 : BT (Option FnC) := .node .nil (some (ofFn Tryz.f216 false Tryz.cl216)) .nil
theorem Tryz.fl_125 : AllAt (FnOk Tryz.prog) 128 216 Tryz.fn_125 := .mk 256 344 472 rfl rfl rfl (Tryz.fk216) (trivial) (trivial)
noncomputable def Tryz.fn_126 : BT (Option FnC) := .node .nil none Tryz.fn_125
theorem Tryz.fl_126 : AllAt (FnOk Tryz.prog) 64 88 Tryz.fn_126 := .mk 128 152 216 rfl rfl rfl (trivial) (trivial) (Tryz.fl_125)
noncomputable def Tryz.fn_127 : BT (Option FnC) := .node .nil (some (ofFn Tryz.f184 false noCls)) .nil
theorem Tryz.fl_127 : AllAt (FnOk Tryz.prog) 128 184 Tryz.fn_127 := .mk 256 312 440 rfl rfl rfl (Tryz.fk184) (trivial) (trivial)
noncomputable def Tryz.fn_128 : BT (Option FnC) := .node .nil (some (ofFn Tryz.f248 false noCls)) .nil
theorem Tryz.fl_128 : AllAt (FnOk Tryz.prog) 128 248 Tryz.fn_128 := .mk 256 376 504 rfl rfl rfl (Tryz.fk248) (trivial) (trivial)
noncomputable def Tryz.fn_129 : BT (Option FnC) := .node Tryz.fn_127 (some (ofFn Tryz.f120 false Tryz.cl120)) Tryz.fn_128
theorem Tryz.fl_129 : AllAt (FnOk Tryz.prog) 64 120 Tryz.fn_129 := .mk 128 184 248 rfl rfl rfl (Tryz.fk120) (Tryz.fl_127) (Tryz.fl_128)
noncomputable def Tryz.fn_130 : BT (Option FnC) := .node Tryz.fn_126 (some (ofFn Tryz.f56 false noCls)) Tryz.fn_129
theorem Tryz.fl_130 : AllAt (FnOk Tryz.prog) 32 56 Tryz.fn_130 := .mk 64 88 120 rfl rfl rfl (Tryz.fk56) (Tryz.fl_126) (Tryz.fl_129)
noncomputable def Tryz.fn_131 : BT (Option FnC) := .node Tryz.fn_124 (some (ofFn Tryz.f24 true noCls)) Tryz.fn_130
theorem Tryz.fl_131 : AllAt (FnOk Tryz.prog) 16 24 Tryz.fn_131 := .mk 32 40 56 rfl rfl rfl (Tryz.fk24) (Tryz.fl_124) (Tryz.fl_130)
noncomputable def Tryz.fn_132 : BT (Option FnC) := .node Tryz.fn_121 none Tryz.fn_131
theorem Tryz.fl_132 : AllAt (FnOk Tryz.prog) 8 8 Tryz.fn_132 := .mk 16 16 24 rfl rfl rfl (trivial) (Tryz.fl_121) (Tryz.fl_131)
noncomputable def Tryz.fn_133 : BT (Option FnC) := .node .nil (some (ofFn Tryz.f260 false noCls)) .nil
theorem Tryz.fl_133 : AllAt (FnOk Tryz.prog) 256 260 Tryz.fn_133 := .mk 512 516 772 rfl rfl rfl (Tryz.fk260) (trivial) (trivial)
noncomputable def Tryz.fn_134 : BT (Option FnC) := .node Tryz.fn_133 none .nil
theorem Tryz.fl_134 : AllAt (FnOk Tryz.prog) 128 132 Tryz.fn_134 := .mk 256 260 388 rfl rfl rfl (trivial) (Tryz.fl_133) (trivial)
noncomputable def Tryz.fn_135 : BT (Option FnC) := .node .nil (some (ofFn Tryz.f196 false noCls)) .nil
theorem Tryz.fl_135 : AllAt (FnOk Tryz.prog) 128 196 Tryz.fn_135 := .mk 256 324 452 rfl rfl rfl (Tryz.fk196) (trivial) (trivial)
noncomputable def Tryz.fn_136 : BT (Option FnC) := .node Tryz.fn_134 none Tryz.fn_135
theorem Tryz.fl_136 : AllAt (FnOk Tryz.prog) 64 68 Tryz.fn_136 := .mk 128 132 196 rfl rfl rfl (trivial) (Tryz.fl_134) (Tryz.fl_135)
noncomputable def Tryz.fn_137 : BT (Option FnC) := .node .nil (some (ofFn Tryz.f164 false noCls)) .nil
theorem Tryz.fl_137 : AllAt (FnOk Tryz.prog) 128 164 Tryz.fn_137 := .mk 256 292 420 rfl rfl rfl (Tryz.fk164) (trivial) (trivial)
noncomputable def Tryz.fn_138 : BT (Option FnC) := .node .nil (some (ofFn Tryz.f228 false noCls)) .nil
theorem Tryz.fl_138 : AllAt (FnOk Tryz.prog) 128 228 Tryz.fn_138 := .mk 256 356 484 rfl rfl rfl (Tryz.fk228) (trivial) (trivial)
noncomputable def Tryz.fn_139 : BT (Option FnC) := .node Tryz.fn_137 none Tryz.fn_138
theorem Tryz.fl_139 : AllAt (FnOk Tryz.prog) 64 100 Tryz.fn_139 := .mk 128 164 228 rfl rfl rfl (trivial) (Tryz.fl_137) (Tryz.fl_138)
noncomputable def Tryz.fn_140 : BT (Option FnC) := .node Tryz.fn_136 (some (ofFn Tryz.f36 true noCls)) Tryz.fn_139
theorem Tryz.fl_140 : AllAt (FnOk Tryz.prog) 32 36 Tryz.fn_140 := .mk 64 68 100 rfl rfl rfl (Tryz.fk36) (Tryz.fl_136) (Tryz.fl_139)
noncomputable def Tryz.fn_141 : BT (Option FnC) := .node .nil (some (ofFn Tryz.f148 false noCls)) .nil
theorem Tryz.fl_141 : AllAt (FnOk Tryz.prog) 128 148 Tryz.fn_141 := .mk 256 276 404 rfl rfl rfl (Tryz.fk148) (trivial) (trivial)
noncomputable def Tryz.fn_142 : BT (Option FnC) := .node Tryz.fn_141 (some (ofFn Tryz.f84 false noCls)) .nil
theorem Tryz.fl_142 : AllAt (FnOk Tryz.prog) 64 84 Tryz.fn_142 := .mk 128 148 212 rfl rfl rfl (Tryz.fk84) (Tryz.fl_141) (trivial)
noncomputable def Tryz.fn_143 : BT (Option FnC) := .node .nil (some (ofFn Tryz.f180 false noCls)) .nil
theorem Tryz.fl_143 : AllAt (FnOk Tryz.prog) 128 180 Tryz.fn_143 := .mk 256 308 436 rfl rfl rfl (Tryz.fk180) (trivial) (trivial)
noncomputable def Tryz.fn_144 : BT (Option FnC) := .node Tryz.fn_143 none .nil
theorem Tryz.fl_144 : AllAt (FnOk Tryz.prog) 64 116 Tryz.fn_144 := .mk 128 180 244 rfl rfl rfl (trivial) (Tryz.fl_143) (trivial)
noncomputable def Tryz.fn_145 : BT (Option FnC) := .node Tryz.fn_142 none Tryz.fn_144
theorem Tryz.fl_145 : AllAt (FnOk Tryz.prog) 32 52 Tryz.fn_145 := .mk 64 84 116 rfl rfl rfl (trivial) (Tryz.fl_142) (Tryz.fl_144)
noncomputable def Tryz.fn_146 : BT (Option FnC) := .node Tryz.fn_140 none Tryz.fn_145
theorem Tryz.fl_146 : AllAt (FnOk Tryz.prog) 16 20 Tryz.fn_146 := .mk 32 36 52 rfl rfl rfl (trivial) (Tryz.fl_140) (Tryz.fl_145)
noncomputable def Tryz.fn_147 : BT (Option FnC) := .node .nil (some (ofFn Tryz.f140 true noCls)) .nil
theorem Tryz.fl_147 : AllAt (FnOk Tryz.prog) 128 140 Tryz.fn_147 := .mk 256 268 396 rfl rfl rfl (Tryz.fk140) (trivial) (trivial)
noncomputable def Tryz.fn_148 : BT (Option FnC) := .node .nil (some (ofFn Tryz.f204 false Tryz.cl204)) .nil
theorem Tryz.fl_148 : AllAt (FnOk Tryz.prog) 128 204 Tryz.fn_148 := .mk 256 332 460 rfl rfl rfl (Tryz.fk204) (trivial) (trivial)
noncomputable def Tryz.fn_149 : BT (Option FnC) := .node Tryz.fn_147 (some (ofFn Tryz.f76 false noCls)) Tryz.fn_148
theorem Tryz.fl_149 : AllAt (FnOk Tryz.prog) 64 76 Tryz.fn_149 := .mk 128 140 204 rfl rfl rfl (Tryz.fk76) (Tryz.fl_147) (Tryz.fl_148)
noncomputable def Tryz.fn_150 : BT (Option FnC) := .node .nil (some (ofFn Tryz.f300 false noCls)) .nil
theorem Tryz.fl_150 : AllAt (FnOk Tryz.prog) 256 300 Tryz.fn_150 := .mk 512 556 812 rfl rfl rfl (Tryz.fk300) (trivial) (trivial)
noncomputable def Tryz.fn_151 : BT (Option FnC) := .node Tryz.fn_150 none .nil
theorem Tryz.fl_151 : AllAt (FnOk Tryz.prog) 128 172 Tryz.fn_151 := .mk 256 300 428 rfl rfl rfl (trivial) (Tryz.fl_150) (trivial)
noncomputable def Tryz.fn_152 : BT (Option FnC) := .node Tryz.fn_151 (some (ofFn Tryz.f108 false noCls)) .nil
theorem Tryz.fl_152 : AllAt (FnOk Tryz.prog) 64 108 Tryz.fn_152 := .mk 128 172 236 rfl rfl rfl (Tryz.fk108) (Tryz.fl_151) (trivial)
noncomputable def Tryz.fn_153 : BT (Option FnC) := .node Tryz.fn_149 (some (ofFn Tryz.f44 true noCls)) Tryz.fn_152
theorem Tryz.fl_153 : AllAt (FnOk Tryz.prog) 32 44 Tryz.fn_153 := .mk 64 76 108 rfl rfl rfl (Tryz.fk44) (Tryz.fl_149) (Tryz.fl_152)
noncomputable def Tryz.fn_154 : BT (Option FnC) := .node .nil (some (ofFn Tryz.f220 false Tryz.cl220)) .nil
theorem Tryz.fl_154 : AllAt (FnOk Tryz.prog) 128 220 Tryz.fn_154 := .mk 256 348 476 rfl rfl rfl (Tryz.fk220) (trivial) (trivial)
noncomputable def Tryz.fn_155 : BT (Option FnC) := .node .nil (some (ofFn Tryz.f92 false noCls)) Tryz.fn_154
theorem Tryz.fl_155 : AllAt (FnOk Tryz.prog) 64 92 Tryz.fn_155 := .mk 128 156 220 rfl rfl rfl (Tryz.fk92) (trivial) (Tryz.fl_154)
noncomputable def Tryz.fn_156 : BT (Option FnC) := .node .nil (some (ofFn Tryz.f188 false noCls)) .nil
theorem Tryz.fl_156 : AllAt (FnOk Tryz.prog) 128 188 Tryz.fn_156 := .mk 256 316 444 rfl rfl rfl (Tryz.fk188) (trivial) (trivial)
noncomputable def Tryz.fn_157 : BT (Option FnC) := .node Tryz.fn_156 (some (ofFn Tryz.f124 false noCls)) .nil
theorem Tryz.fl_157 : AllAt (FnOk Tryz.prog) 64 124 Tryz.fn_157 := .mk 128 188 252 rfl rfl rfl (Tryz.fk124) (Tryz.fl_156) (trivial)
noncomputable def Tryz.fn_158 : BT (Option FnC) := .node Tryz.fn_155 (some (ofFn Tryz.f60 false noCls)) Tryz.fn_157
theorem Tryz.fl_158 : AllAt (FnOk Tryz.prog) 32 60 Tryz.fn_158 := .mk 64 92 124 rfl rfl rfl (Tryz.fk60) (Tryz.fl_155) (Tryz.fl_157)
noncomputable def Tryz.fn_159 : BT (Option FnC) := .node Tryz.fn_153 none Tryz.fn_158
theorem Tryz.fl_159 : AllAt (FnOk Tryz.prog) 16 28 Tryz.fn_159 := .mk 32 44 60 rfl rfl rfl (trivial) (Tryz.fl_153) (Tryz.fl_158)
noncomputable def Tryz.fn_160 : BT (Option FnC) := .node Tryz.fn_146 none Tryz.fn_159
theorem Tryz.fl_160 : AllAt (FnOk Tryz.prog) 8 12 Tryz.fn_160 := .mk 16 20 28 rfl rfl rfl (trivial) (Tryz.fl_146) (Tryz.fl_159)
noncomputable def Tryz.fn_161 : BT (Option FnC) := .node Tryz.fn_132 none Tryz.fn_160
theorem Tryz.fl_161 : AllAt (FnOk Tryz.prog) 4 4 Tryz.fn_161 := .mk 8 8 12 rfl rfl rfl (trivial) (Tryz.fl_132) (Tryz.fl_160)
noncomputable def Tryz.fn_162 : BT (Option FnC) := .node .nil (some (ofFn Tryz.f66 false noCls)) .nil
theorem Tryz.fl_162 : AllAt (FnOk Tryz.prog) 64 66 Tryz.fn_162 := .mk 128 130 194 rfl rfl rfl (Tryz.fk66) (trivial) (trivial)
noncomputable def Tryz.fn_163 : BT (Option FnC) := .node .nil (some (ofFn Tryz.f162 false noCls)) .nil
theorem Tryz.fl_163 : AllAt (FnOk Tryz.prog) 128 162 Tryz.fn_163 := .mk 256 290 418 rfl rfl rfl (Tryz.fk162) (trivial) (trivial)
noncomputable def Tryz.fn_164 : BT (Option FnC) := .node .nil (some (ofFn Tryz.f226 false noCls)) .nil
theorem Tryz.fl_164 : AllAt (FnOk Tryz.prog) 128 226 Tryz.fn_164 := .mk 256 354 482 rfl rfl rfl (Tryz.fk226) (trivial) (trivial)
noncomputable def Tryz.fn_165 : BT (Option FnC) := .node Tryz.fn_163 none Tryz.fn_164
theorem Tryz.fl_165 : AllAt (FnOk Tryz.prog) 64 98 Tryz.fn_165 := .mk 128 162 226 rfl rfl rfl (trivial) (Tryz.fl_163) (Tryz.fl_164)
noncomputable def Tryz.fn_166 : BT (Option FnC) := .node Tryz.fn_162 none Tryz.fn_165
theorem Tryz.fl_166 : AllAt (FnOk Tryz.prog) 32 34 Tryz.fn_166 := .mk 64 66 98 rfl rfl rfl (trivial) (Tryz.fl_162) (Tryz.fl_165)
noncomputable def Tryz.fn_167 : BT (Option FnC) := .node .nil (some (ofFn Tryz.f274 false noCls)) .nil
theorem Tryz.fl_167 : AllAt (FnOk Tryz.prog) 256 274 Tryz.fn_167 := .mk 512 530 786 rfl rfl rfl (Tryz.fk274) (trivial) (trivial)
noncomputable def Tryz.fn_168 : BT (Option FnC) := .node Tryz.fn_167 none .nil
theorem Tryz.fl_168 : AllAt (FnOk Tryz.prog) 128 146 Tryz.fn_168 := .mk 256 274 402 rfl rfl rfl (trivial) (Tryz.fl_167) (trivial)
noncomputable def Tryz.fn_169 : BT (Option FnC) := .node Tryz.fn_168 none .nil
theorem Tryz.fl_169 : AllAt (FnOk Tryz.prog) 64 82 Tryz.fn_169 := .mk 128 146 210 rfl rfl rfl (trivial) (Tryz.fl_168) (trivial)
noncomputable def Tryz.fn_170 : BT (Option FnC) := .node .nil (some (ofFn Tryz.f178 false Tryz.cl178)) .nil
theorem Tryz.fl_170 : AllAt (FnOk Tryz.prog) 128 178 Tryz.fn_170 := .mk 256 306 434 rfl rfl rfl (Tryz.fk178) (trivial) (trivial)
noncomputable def Tryz.fn_171 : BT (Option FnC) := .node Tryz.fn_170 none .nil
theorem Tryz.fl_171 : AllAt (FnOk Tryz.prog) 64 114 Tryz.fn_171 := .mk 128 178 242 rfl rfl rfl (trivial) (Tryz.fl_170) (trivial)
noncomputable def Tryz.fn_172 : BT (Option FnC) := .node Tryz.fn_169 none Tryz.fn_171
theorem Tryz.fl_172 : AllAt (FnOk Tryz.prog) 32 50 Tryz.fn_172 := .mk 64 82 114 rfl rfl rfl (trivial) (Tryz.fl_169) (Tryz.fl_171)
noncomputable def Tryz.fn_173 : BT (Option FnC) := .node Tryz.fn_166 (some (ofFn Tryz.f18 false noCls)) Tryz.fn_172
theorem Tryz.fl_173 : AllAt (FnOk Tryz.prog) 16 18 Tryz.fn_173 := .mk 32 34 50 rfl rfl rfl (Tryz.fk18) (Tryz.fl_166) (Tryz.fl_172)
noncomputable def Tryz.fn_174 : BT (Option FnC) := .node .nil (some (ofFn Tryz.f138 false Tryz.cl138)) .nil
theorem Tryz.fl_174 : AllAt (FnOk Tryz.prog) 128 138 Tryz.fn_174 := .mk 256 266 394 rfl rfl rfl (Tryz.fk138) (trivial) (trivial)
noncomputable def Tryz.fn_175 : BT (Option FnC) := .node .nil (some (ofFn Tryz.f202 false Tryz.cl202)) .nil
theorem Tryz.fl_175 : AllAt (FnOk Tryz.prog) 128 202 Tryz.fn_175 := .mk 256 330 458 rfl rfl rfl (Tryz.fk202) (trivial) (trivial)
noncomputable def Tryz.fn_176 : BT (Option FnC) := .node Tryz.fn_174 none Tryz.fn_175
theorem Tryz.fl_176 : AllAt (FnOk Tryz.prog) 64 74 Tryz.fn_176 := .mk 128 138 202 rfl rfl rfl (trivial) (Tryz.fl_174) (Tryz.fl_175)
noncomputable def Tryz.fn_177 : BT (Option FnC) := .node .nil (some (ofFn Tryz.f234 false Tryz.cl234)) .nil
theorem Tryz.fl_177 : AllAt (FnOk Tryz.prog) 128 234 Tryz.fn_177 := .mk 256 362 490 rfl rfl rfl (Tryz.fk234) (trivial) (trivial)
noncomputable def Tryz.fn_178 : BT (Option FnC) := .node .nil (some (ofFn Tryz.f106 false noCls)) Tryz.fn_177
theorem Tryz.fl_178 : AllAt (FnOk Tryz.prog) 64 106 Tryz.fn_178 := .mk 128 170 234 rfl rfl rfl (Tryz.fk106) (trivial) (Tryz.fl_177)
noncomputable def Tryz.fn_179 : BT (Option FnC) := .node Tryz.fn_176 none Tryz.fn_178
theorem Tryz.fl_179 : AllAt (FnOk Tryz.prog) 32 42 Tryz.fn_179 := .mk 64 74 106 rfl rfl rfl (trivial) (Tryz.fl_176) (Tryz.fl_178)
noncomputable def Tryz.fn_180 : BT (Option FnC) := .node .nil (some (ofFn Tryz.f218 false Tryz.cl218)) .nil
theorem Tryz.fl_180 : AllAt (FnOk Tryz.prog) 128 218 Tryz.fn_180 := .mk 256 346 474 rfl rfl rfl (Tryz.fk218) (trivial) (trivial)
noncomputable def Tryz.fn_181 : BT (Option FnC) := .node .nil (some (ofFn Tryz.f90 false noCls)) Tryz.fn_180
theorem Tryz.fl_181 : AllAt (FnOk Tryz.prog) 64 90 Tryz.fn_181 := .mk 128 154 218 rfl rfl rfl (Tryz.fk90) (trivial) (Tryz.fl_180)
noncomputable def Tryz.fn_182 : BT (Option FnC) := .node .nil (some (ofFn Tryz.f186 false noCls)) .nil
theorem Tryz.fl_182 : AllAt (FnOk Tryz.prog) 128 186 Tryz.fn_182 := .mk 256 314 442 rfl rfl rfl (Tryz.fk186) (trivial) (trivial)
noncomputable def Tryz.fn_183 : BT (Option FnC) := .node .nil (some (ofFn Tryz.f250 false noCls)) .nil
theorem Tryz.fl_183 : AllAt (FnOk Tryz.prog) 128 250 Tryz.fn_183 := .mk 256 378 506 rfl rfl rfl (Tryz.fk250) (trivial) (trivial)
noncomputable def Tryz.fn_184 : BT (Option FnC) := .node Tryz.fn_182 (some (ofFn Tryz.f122 false noCls)) Tryz.fn_183
theorem Tryz.fl_184 : AllAt (FnOk Tryz.prog) 64 122 Tryz.fn_184 := .mk 128 186 250 rfl rfl rfl (Tryz.fk122) (Tryz.fl_182) (Tryz.fl_183)
noncomputable def Tryz.fn_185 : BT (Option FnC) := .node Tryz.fn_181 (some (ofFn Tryz.f58 false noCls)) Tryz.fn_184
theorem Tryz.fl_185 : AllAt (FnOk Tryz.prog) 32 58 Tryz.fn_185 := .mk 64 90 122 rfl rfl rfl (Tryz.fk58) (Tryz.fl_181) (Tryz.fl_184)
noncomputable def Tryz.fn_186 : BT (Option FnC) := .node Tryz.fn_179 (some (ofFn Tryz.f26 true noCls)) Tryz.fn_185
theorem Tryz.fl_186 : AllAt (FnOk Tryz.prog) 16 26 Tryz.fn_186 := .mk 32 42 58 rfl rfl rfl (Tryz.fk26) (Tryz.fl_179) (Tryz.fl_185)
noncomputable def Tryz.fn_187 : BT (Option FnC) := .node Tryz.fn_173 none Tryz.fn_186
theorem Tryz.fl_187 : AllAt (FnOk Tryz.prog) 8 10 Tryz.fn_187 := .mk 16 18 26 rfl rfl rfl (trivial) (Tryz.fl_173) (Tryz.fl_186)
noncomputable def Tryz.fn_188 : BT (Option FnC) := .node .nil (some (ofFn Tryz.f262 false noCls)) .nil
theorem Tryz.fl_188 : AllAt (FnOk Tryz.prog) 256 262 Tryz.fn_188 := .mk 512 518 774 rfl rfl rfl (Tryz.fk262) (trivial) (trivial)
noncomputable def Tryz.fn_189 : BT (Option FnC) := .node Tryz.fn_188 none .nil
theorem Tryz.fl_189 : AllAt (FnOk Tryz.prog) 128 134 Tryz.fn_189 := .mk 256 262 390 rfl rfl rfl (trivial) (Tryz.fl_188) (trivial)
noncomputable def Tryz.fn_190 : BT (Option FnC) := .node .nil (some (ofFn Tryz.f198 false Tryz.cl198)) .nil
theorem Tryz.fl_190 : AllAt (FnOk Tryz.prog) 128 198 Tryz.fn_190 := .mk 256 326 454 rfl rfl rfl (Tryz.fk198) (trivial) (trivial)
noncomputable def Tryz.fn_191 : BT (Option FnC) := .node Tryz.fn_189 none Tryz.fn_190
theorem Tryz.fl_191 : AllAt (FnOk Tryz.prog) 64 70 Tryz.fn_191 := .mk 128 134 198 rfl rfl rfl (trivial) (Tryz.fl_189) (Tryz.fl_190)
noncomputable def Tryz.fn_192 : BT (Option FnC) := .node .nil (some (ofFn Tryz.f102 false noCls)) .nil
theorem Tryz.fl_192 : AllAt (FnOk Tryz.prog) 64 102 Tryz.fn_192 := .mk 128 166 230 rfl rfl rfl (Tryz.fk102) (trivial) (trivial)
noncomputable def Tryz.fn_193 : BT (Option FnC) := .node Tryz.fn_191 (some (ofFn Tryz.f38 true noCls)) Tryz.fn_192
theorem Tryz.fl_193 : AllAt (FnOk Tryz.prog) 32 38 Tryz.fn_193 := .mk 64 70 102 rfl rfl rfl (Tryz.fk38) (Tryz.fl_191) (Tryz.fl_192)
noncomputable def Tryz.fn_194 : BT (Option FnC) := .node .nil (some (ofFn Tryz.f278 false Tryz.cl278)) .nil
theorem Tryz.fl_194 : AllAt (FnOk Tryz.prog) 256 278 Tryz.fn_194 := .mk 512 534 790 rfl rfl rfl (Tryz.fk278) (trivial) (trivial)
noncomputable def Tryz.fn_195 : BT (Option FnC) := .node Tryz.fn_194 (some (ofFn Tryz.f150 true Tryz.cl150)) .nil
theorem Tryz.fl_195 : AllAt (FnOk Tryz.prog) 128 150 Tryz.fn_195 := .mk 256 278 406 rfl rfl rfl (Tryz.fk150) (Tryz.fl_194) (trivial)
noncomputable def Tryz.fn_196 : BT (Option FnC) := .node Tryz.fn_195 (some (ofFn Tryz.f86 false Tryz.cl86)) .nil
theorem Tryz.fl_196 : AllAt (FnOk Tryz.prog) 64 86 Tryz.fn_196 := .mk 128 150 214 rfl rfl rfl (Tryz.fk86) (Tryz.fl_195) (trivial)
noncomputable def Tryz.fn_197 : BT (Option FnC) := .node Tryz.fn_196 (some (ofFn Tryz.f54 false noCls)) .nil
theorem Tryz.fl_197 : AllAt (FnOk Tryz.prog) 32 54 Tryz.fn_197 := .mk 64 86 118 rfl rfl rfl (Tryz.fk54) (Tryz.fl_196) (trivial)
noncomputable def Tryz.fn_198 : BT (Option FnC) := .node Tryz.fn_193 (some (ofFn Tryz.f22 false noCls)) Tryz.fn_197
theorem Tryz.fl_198 : AllAt (FnOk Tryz.prog) 16 22 Tryz.fn_198 := .mk 32 38 54 rfl rfl rfl (Tryz.fk22) (Tryz.fl_193) (Tryz.fl_197)
noncomputable def Tryz.fn_199 : BT (Option FnC) := .node .nil (some (ofFn Tryz.f206 false noCls)) .nil
theorem Tryz.fl_199 : AllAt (FnOk Tryz.prog) 128 206 Tryz.fn_199 := .mk 256 334 462 rfl rfl rfl (Tryz.fk206) (trivial) (trivial)
noncomputable def Tryz.fn_200 : BT (Option FnC) := .node .nil (some (ofFn Tryz.f78 false noCls)) Tryz.fn_199
theorem Tryz.fl_200 : AllAt (FnOk Tryz.prog) 64 78 Tryz.fn_200 := .mk 128 142 206 rfl rfl rfl (Tryz.fk78) (trivial) (Tryz.fl_199)
noncomputable def Tryz.fn_201 : BT (Option FnC) := .node .nil (some (ofFn Tryz.f302 false Tryz.cl302)) .nil
theorem Tryz.fl_201 : AllAt (FnOk Tryz.prog) 256 302 Tryz.fn_201 := .mk 512 558 814 rfl rfl rfl (Tryz.fk302) (trivial) (trivial)
noncomputable def Tryz.fn_202 : BT (Option FnC) := .node Tryz.fn_201 none .nil
theorem Tryz.fl_202 : AllAt (FnOk Tryz.prog) 128 174 Tryz.fn_202 := .mk 256 302 430 rfl rfl rfl (trivial) (Tryz.fl_201) (trivial)
noncomputable def Tryz.fn_203 : BT (Option FnC) := .node Tryz.fn_202 (some (ofFn Tryz.f110 false noCls)) .nil
theorem Tryz.fl_203 : AllAt (FnOk Tryz.prog) 64 110 Tryz.fn_203 := .mk 128 174 238 rfl rfl rfl (Tryz.fk110) (Tryz.fl_202) (trivial)
noncomputable def Tryz.fn_204 : BT (Option FnC) := .node Tryz.fn_200 (some (ofFn Tryz.f46 false noCls)) Tryz.fn_203
theorem Tryz.fl_204 : AllAt (FnOk Tryz.prog) 32 46 Tryz.fn_204 := .mk 64 78 110 rfl rfl rfl (Tryz.fk46) (Tryz.fl_200) (Tryz.fl_203)
noncomputable def Tryz.fn_205 : BT (Option FnC) := .node .nil (some (ofFn Tryz.f158 false noCls)) .nil
theorem Tryz.fl_205 : AllAt (FnOk Tryz.prog) 128 158 Tryz.fn_205 := .mk 256 286 414 rfl rfl rfl (Tryz.fk158) (trivial) (trivial)
noncomputable def Tryz.fn_206 : BT (Option FnC) := .node .nil (some (ofFn Tryz.f222 false Tryz.cl222)) .nil
theorem Tryz.fl_206 : AllAt (FnOk Tryz.prog) 128 222 Tryz.fn_206 := .mk 256 350 478 rfl rfl rfl (Tryz.fk222) (trivial) (trivial)
noncomputable def Tryz.fn_207 : BT (Option FnC) := .node Tryz.fn_205 none Tryz.fn_206
theorem Tryz.fl_207 : AllAt (FnOk Tryz.prog) 64 94 Tryz.fn_207 := .mk 128 158 222 rfl rfl rfl (trivial) (Tryz.fl_205) (Tryz.fl_206)
noncomputable def Tryz.fn_208 : BT (Option FnC) := .node .nil (some (ofFn Tryz.f190 false noCls)) .nil
theorem Tryz.fl_208 : AllAt (FnOk Tryz.prog) 128 190 Tryz.fn_208 := .mk 256 318 446 rfl rfl rfl (Tryz.fk190) (trivial) (trivial)
noncomputable def Tryz.fn_209 : BT (Option FnC) := .node Tryz.fn_208 (some (ofFn Tryz.f126 false noCls)) .nil
theorem Tryz.fl_209 : AllAt (FnOk Tryz.prog) 64 126 Tryz.fn_209 := .mk 128 190 254 rfl rfl rfl (Tryz.fk126) (Tryz.fl_208) (trivial)
noncomputable def Tryz.fn_210 : BT (Option FnC) := .node Tryz.fn_207 (some (ofFn Tryz.f62 false Tryz.cl62)) Tryz.fn_209
theorem Tryz.fl_210 : AllAt (FnOk Tryz.prog) 32 62 Tryz.fn_210 := .mk 64 94 126 rfl rfl rfl (Tryz.fk62) (Tryz.fl_207) (Tryz.fl_209)
noncomputable def Tryz.fn_211 : BT (Option FnC) := .node Tryz.fn_204 (some (ofFn Tryz.f30 true noCls)) Tryz.fn_210
theorem Tryz.fl_211 : AllAt (FnOk Tryz.prog) 16 30 Tryz.fn_211 := .mk 32 46 62 rfl rfl rfl (Tryz.fk30) (Tryz.fl_204) (Tryz.fl_210)
noncomputable def Tryz.fn_212 : BT (Option FnC) := .node Tryz.fn_198 none Tryz.fn_211
theorem Tryz.fl_212 : AllAt (FnOk Tryz.prog) 8 14 Tryz.fn_212 := .mk 16 22 30 rfl rfl rfl (trivial) (Tryz.fl_198) (Tryz.fl_211)
noncomputable def Tryz.fn_213 : BT (Option FnC) := .node Tryz.fn_187 none Tryz.fn_212
theorem Tryz.fl_213 : AllAt (FnOk Tryz.prog) 4 6 Tryz.fn_213 := .mk 8 10 14 rfl rfl rfl (trivial) (Tryz.fl_187) (Tryz.fl_212)
noncomputable def Tryz.fn_214 : BT (Option FnC) := .node Tryz.fn_161 none Tryz.fn_213
theorem Tryz.fl_214 : AllAt (FnOk Tryz.prog) 2 2 Tryz.fn_214 := .mk 4 4 6 rfl rfl rfl (trivial) (Tryz.fl_161) (Tryz.fl_213)
noncomputable def Tryz.fn_215 : BT (Option FnC) := .node Tryz.fn_107 none Tryz.fn_214
theorem Tryz.fl_215 : AllAt (FnOk Tryz.prog) 1 0 Tryz.fn_215 := .mk 2 1 2 rfl rfl rfl (trivial) (Tryz.fl_107) (Tryz.fl_214)
noncomputable def Tryz.extT (f : Nat) : Option Ext1 := bif Nat.beq f 273 then some .indexByteString else bif Nat.beq f 242 then some .noEscape else bif Nat.beq f 244 then some .makeNoZero else none
noncomputable def Tryz.cmpT (t : Nat) : Bool := bif Nat.beq t 60 then true else bif Nat.beq t 201 then true else bif Nat.beq t 277 then true else false
noncomputable def Tryz.tab : Tab := { ti := fun t => Tryz.ti_333.get ⟨.bad, 0, 0, .junk⟩ t, ext := Tryz.extT, u8 := 5, cmp := Tryz.cmpT, unsf := fun t => Nat.beq t 280 }
theorem Tryz.tab_ok : Tryz.tab.Ok Tryz.prog where
  ti t h := (AllAt.get1 (Q := TiOk Tryz.prog) _ (fun _ => tiOk_bad) _ Tryz.tk_333 t).1 h
  bad t h := (AllAt.get1 (Q := TiOk Tryz.prog) _ (fun _ => tiOk_bad) _ Tryz.tk_333 t).2 h
  cmp t h := by
    simp only [Tryz.tab, Tryz.cmpT, Bool.cond_eq_ite] at h
    split at h
    · rename_i e; rw [Nat.beq_eq] at e; subst e; exact ⟨by kernel_rfl, by kernel_rfl⟩
    split at h
    · rename_i e; rw [Nat.beq_eq] at e; subst e; exact ⟨by kernel_rfl, by kernel_rfl⟩
    split at h
    · rename_i e; rw [Nat.beq_eq] at e; subst e; exact ⟨by kernel_rfl, by kernel_rfl⟩
    cases h
  unsf t h := by
    have e : t = 280 := Nat.eq_of_beq_eq_true h
    subst e
    exact (by kernel_rfl : Tryz.prog.underlying 280 = some .unsafePointer)
  byt f h := by
    simp only [Tryz.tab, Tryz.extT, Bool.cond_eq_ite] at h
    split at h
    · rename_i e
      rw [Nat.beq_eq] at e
      subst e
      exact ⟨_, Tryz.func273, rfl, by kernel_rfl, by kernel_rfl, by kernel_rfl⟩
    · split at h
      · cases h
      · split at h <;> cases h
  esc f h := by
    simp only [Tryz.tab, Tryz.extT, Bool.cond_eq_ite] at h
    split at h
    · cases h
    · split at h
      · rename_i e
        rw [Nat.beq_eq] at e
        subst e
        exact ⟨_, Tryz.func242, rfl, by kernel_rfl, by kernel_rfl, by kernel_rfl⟩
      · split at h <;> cases h
  mkz f h := by
    simp only [Tryz.tab, Tryz.extT, Bool.cond_eq_ite] at h
    split at h
    · cases h
    · split at h
      · cases h
      · split at h
        · rename_i e
          rw [Nat.beq_eq] at e
          subst e
          exact ⟨#[3], #[152], 152, ⟨_, Tryz.func244, rfl, by kernel_rfl, by kernel_rfl, by kernel_rfl⟩, by kernel_rfl, by rw [Tryz.ti152]; rfl⟩
        · cases h
noncomputable def Tryz.fnT (f : FuncId) : Option FnC := Tryz.fn_215.get none f
theorem Tryz.fnT_ok (f : FuncId) : FnOk Tryz.prog f (Tryz.fnT f) := AllAt.get1 (Q := FnOk Tryz.prog) none (fun _ => trivial) _ Tryz.fl_215 f
end Go.Proofs
end
