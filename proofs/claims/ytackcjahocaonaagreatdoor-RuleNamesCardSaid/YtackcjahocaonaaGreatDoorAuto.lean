/- A part of a proof: rules for reading Go code as code over plain values, and what follows for this program. Its conditions stand in each statement. -/
import Derived.Test.YtackcjahocaonaaGreatDoorAbC
section
set_option linter.unusedSimpArgs false
set_option linter.unusedVariables false
namespace Go.Ab
attribute [simp] GV.real GV.raw GV.cond GEnv.get GEnv.real GEnv.raw GEnv.cond GEnv.plain GEnv.put ofEnv GV.isB gguard gops Op.operands Call.operands gcallOk sops dsops isCall aop aopCall Env.put Env.ev Env.get dstOk ofVal argEnv isNumOp intOp strOp guardOf AV.solid AV.shift AV.isPtr curPtr loadOf storeOf nilOk sliceOf indexAddrOf indexOf lookupOf updateOf appendOf fieldOf elemsOf boundOf ktOf AV.key Program.part Desc.agg putCells AV.putAt buildCells resAV resVar resVars tupOf pureQ IntKind.bits IntKind.signed
variable {H L : Heap} {x : AObj} {k : Nat}
@[simp] theorem hget_app : (H ++ L)[H.length + k]? = L[k]? := by rw [List.getElem?_append_right (by omega)]; congr 1; omega
@[simp] theorem hget_app0 : (H ++ L)[H.length]? = L[0]? := by rw [List.getElem?_append_right (by omega)]; congr 1; omega
@[simp] theorem hset_app : (H ++ L).set (H.length + k) x = H ++ L.set k x := by rw [List.set_append_right _ _ (by omega)]; congr 2; omega
@[simp] theorem hset_app0 : (H ++ L).set H.length x = H ++ L.set 0 x := by rw [List.set_append_right _ _ (by omega)]; congr 2; omega
@[simp] theorem av_ite_bool {c : Prop} [Decidable c] {x y : Bool} : (if c then AV.bool x else AV.bool y) = AV.bool (if c then x else y) := by split <;> rfl
@[simp] theorem ofEnv_app (e f : Env) : ofEnv (e ++ f) = ofEnv e ++ ofEnv f := by simp [ofEnv]
section
variable {P : Program} {H : Heap} {op : BinOp} {d s : Desc} {k q : IntKind} {a b : Int} {x y : AV}
@[simp] theorem binAV_int : binAV op d (.int k a) (.int q b) = if isNumOp op then (if k = q then intOp op k a b else .junk) else shiftOp op k a b := rfl
@[simp] theorem binAV_str {s t : List UInt8} : binAV op d (.str s) (.str t) = strOp op s t := rfl
@[simp] theorem binAV_beql {a b : Bool} : binAV .eql d (.bool a) (.bool b) = .bool (a == b) := rfl
@[simp] theorem binAV_bneq {a b : Bool} : binAV .neq d (.bool a) (.bool b) = .bool (a != b) := rfl
@[simp] theorem binAV_neql : binAV .eql d .nilS .nilS = .bool true := rfl
@[simp] theorem binAV_nneq : binAV .neq d .nilS .nilS = .bool false := rfl
@[simp] theorem binAV_leql {l : List AV} : binAV .eql d (.lst (x :: l)) .nilS = .bool false := rfl
@[simp] theorem binAV_lneq {l : List AV} : binAV .neq d (.lst (x :: l)) .nilS = .bool true := rfl
@[simp] theorem binOk_int : binOk op d (.int k a) (.int q b) = if isNumOp op then k = q ∧ ((op = .quo ∨ op = .rem) → b ≠ 0) else 0 ≤ b := rfl
@[simp] theorem binOk_sadd {s t : List UInt8} : binOk .add d (.str s) (.str t) = (s.length + t.length ≤ 9223372036854775807) := rfl
@[simp] theorem binOk_seql {s t : List UInt8} : binOk .eql d (.str s) (.str t) = True := rfl
@[simp] theorem binOk_sneq {s t : List UInt8} : binOk .neq d (.str s) (.str t) = True := rfl
@[simp] theorem binOk_slss {s t : List UInt8} : binOk .lss d (.str s) (.str t) = True := rfl
@[simp] theorem binOk_sgtr {s t : List UInt8} : binOk .gtr d (.str s) (.str t) = True := rfl
@[simp] theorem binOk_sleq {s t : List UInt8} : binOk .leq d (.str s) (.str t) = True := rfl
@[simp] theorem binOk_sgeq {s t : List UInt8} : binOk .geq d (.str s) (.str t) = True := rfl
@[simp] theorem binOk_bool {a b : Bool} : binOk op d (.bool a) (.bool b) = (d = .bool ∧ (op = .eql ∨ op = .neq)) := rfl
@[simp] theorem binOk_nil : binOk op d .nilS .nilS = ((match d with | .slice _ => True | _ => False) ∧ (op = .eql ∨ op = .neq)) := rfl
@[simp] theorem binOk_lst {l : List AV} : binOk op d (.lst (x :: l)) .nilS = ((match d with | .slice _ => True | _ => False) ∧ (op = .eql ∨ op = .neq)) := rfl
@[simp] theorem shift_shl (h : 0 ≤ b) : shiftOp .shl k a b = .int k (ishl k a b) := if_neg (by omega)
@[simp] theorem shift_shr (h : 0 ≤ b) : shiftOp .shr k a b = .int k (ishr k a b) := if_neg (by omega)
@[simp] theorem isB_bool {c b : Bool} : (AV.bool c).isB b = some (c == b) := rfl
@[simp] theorem isB_tup {b : Bool} : (AV.tup []).isB b = some false := rfl
@[simp] theorem lenAV_str {s : List UInt8} : lenAV (.str s) = some s.length := rfl
@[simp] theorem lenAV_nil : lenAV .nilS = some 0 := rfl
@[simp] theorem lenAV_lst {l : List AV} : lenAV (.lst l) = some l.length := rfl
@[simp] theorem lenAV_view {i g o n : Nat} : lenAV (.view i g o n) = some n := rfl
@[simp] theorem isStrAV_str {s : List UInt8} : isStrAV (.str s) = true := rfl
@[simp] theorem isStrAV_nil : isStrAV .nilS = false := rfl
@[simp] theorem isStrAV_lst {l : List AV} : isStrAV (.lst l) = false := rfl
@[simp] theorem isStrAV_view {i g o n : Nat} : isStrAV (.view i g o n) = false := rfl
@[simp] theorem convOf_int {i : Int} : convOf H s (.int k) (.int q i) = ⟨s ≠ .bad, .int k (k.wrap i), H⟩ := rfl
@[simp] theorem convOf_str {b : List UInt8} : convOf H s d (.str b) = ⟨s = .string ∧ d = .string, .str b, H⟩ := rfl
end
@[simp] theorem one_junk  : AV.one (.junk : AV) = false := rfl
@[simp] theorem nc_junk  : AV.nc (.junk : AV) = 1 := rfl
@[simp] theorem cells_junk  : AV.cells (.junk : AV) = [(.junk : AV)] := rfl
@[simp] theorem undr_junk  {n : Nat} : AV.under n (.junk : AV) = True := by simp [AV.under, unders_iff]
@[simp] theorem one_bool {b : Bool} : AV.one (.bool b : AV) = true := rfl
@[simp] theorem nc_bool {b : Bool} : AV.nc (.bool b : AV) = 1 := rfl
@[simp] theorem cells_bool {b : Bool} : AV.cells (.bool b : AV) = [(.bool b : AV)] := rfl
@[simp] theorem undr_bool {b : Bool} {n : Nat} : AV.under n (.bool b : AV) = True := by simp [AV.under, unders_iff]
@[simp] theorem one_int {k : IntKind} {i : Int} : AV.one (.int k i : AV) = true := rfl
@[simp] theorem nc_int {k : IntKind} {i : Int} : AV.nc (.int k i : AV) = 1 := rfl
@[simp] theorem cells_int {k : IntKind} {i : Int} : AV.cells (.int k i : AV) = [(.int k i : AV)] := rfl
@[simp] theorem undr_int {k : IntKind} {i : Int} {n : Nat} : AV.under n (.int k i : AV) = True := by simp [AV.under, unders_iff]
@[simp] theorem one_str {s : List UInt8} : AV.one (.str s : AV) = true := rfl
@[simp] theorem nc_str {s : List UInt8} : AV.nc (.str s : AV) = 1 := rfl
@[simp] theorem cells_str {s : List UInt8} : AV.cells (.str s : AV) = [(.str s : AV)] := rfl
@[simp] theorem undr_str {s : List UInt8} {n : Nat} : AV.under n (.str s : AV) = True := by simp [AV.under, unders_iff]
@[simp] theorem one_nilS  : AV.one (.nilS : AV) = true := rfl
@[simp] theorem nc_nilS  : AV.nc (.nilS : AV) = 1 := rfl
@[simp] theorem cells_nilS  : AV.cells (.nilS : AV) = [(.nilS : AV)] := rfl
@[simp] theorem undr_nilS  {n : Nat} : AV.under n (.nilS : AV) = True := by simp [AV.under, unders_iff]
@[simp] theorem one_lst {l : List AV} : AV.one (.lst l : AV) = true := rfl
@[simp] theorem nc_lst {l : List AV} : AV.nc (.lst l : AV) = 1 := rfl
@[simp] theorem cells_lst {l : List AV} : AV.cells (.lst l : AV) = [(.lst l : AV)] := rfl
@[simp] theorem undr_lst {l : List AV} {n : Nat} : AV.under n (.lst l : AV) = (∀ x ∈ l, x.under n) := by simp [AV.under, unders_iff]
@[simp] theorem one_view {a b c d : Nat} : AV.one (.view a b c d : AV) = true := rfl
@[simp] theorem nc_view {a b c d : Nat} : AV.nc (.view a b c d : AV) = 1 := rfl
@[simp] theorem cells_view {a b c d : Nat} : AV.cells (.view a b c d : AV) = [(.view a b c d : AV)] := rfl
@[simp] theorem undr_view {a b c d : Nat} {n : Nat} : AV.under n (.view a b c d : AV) = (a < n) := by simp [AV.under, unders_iff]
@[simp] theorem one_nilP  : AV.one (.nilP : AV) = true := rfl
@[simp] theorem nc_nilP  : AV.nc (.nilP : AV) = 1 := rfl
@[simp] theorem cells_nilP  : AV.cells (.nilP : AV) = [(.nilP : AV)] := rfl
@[simp] theorem undr_nilP  {n : Nat} : AV.under n (.nilP : AV) = True := by simp [AV.under, unders_iff]
@[simp] theorem one_ptr {a b : Nat} : AV.one (.ptr a b : AV) = true := rfl
@[simp] theorem nc_ptr {a b : Nat} : AV.nc (.ptr a b : AV) = 1 := rfl
@[simp] theorem cells_ptr {a b : Nat} : AV.cells (.ptr a b : AV) = [(.ptr a b : AV)] := rfl
@[simp] theorem undr_ptr {a b : Nat} {n : Nat} : AV.under n (.ptr a b : AV) = (a < n) := by simp [AV.under, unders_iff]
@[simp] theorem one_eptr {l : List AV} {a b : Nat} : AV.one (.eptr l a b : AV) = true := rfl
@[simp] theorem nc_eptr {l : List AV} {a b : Nat} : AV.nc (.eptr l a b : AV) = 1 := rfl
@[simp] theorem cells_eptr {l : List AV} {a b : Nat} : AV.cells (.eptr l a b : AV) = [(.eptr l a b : AV)] := rfl
@[simp] theorem undr_eptr {l : List AV} {a b : Nat} {n : Nat} : AV.under n (.eptr l a b : AV) = (∀ x ∈ l, x.under n) := by simp [AV.under, unders_iff]
@[simp] theorem one_vptr {a b c d : Nat} : AV.one (.vptr a b c d : AV) = true := rfl
@[simp] theorem nc_vptr {a b c d : Nat} : AV.nc (.vptr a b c d : AV) = 1 := rfl
@[simp] theorem cells_vptr {a b c d : Nat} : AV.cells (.vptr a b c d : AV) = [(.vptr a b c d : AV)] := rfl
@[simp] theorem undr_vptr {a b c d : Nat} {n : Nat} : AV.under n (.vptr a b c d : AV) = (a < n) := by simp [AV.under, unders_iff]
@[simp] theorem one_nilM  : AV.one (.nilM : AV) = true := rfl
@[simp] theorem nc_nilM  : AV.nc (.nilM : AV) = 1 := rfl
@[simp] theorem cells_nilM  : AV.cells (.nilM : AV) = [(.nilM : AV)] := rfl
@[simp] theorem undr_nilM  {n : Nat} : AV.under n (.nilM : AV) = True := by simp [AV.under, unders_iff]
@[simp] theorem one_map {a : Nat} : AV.one (.map a : AV) = true := rfl
@[simp] theorem nc_map {a : Nat} : AV.nc (.map a : AV) = 1 := rfl
@[simp] theorem cells_map {a : Nat} : AV.cells (.map a : AV) = [(.map a : AV)] := rfl
@[simp] theorem undr_map {a : Nat} {n : Nat} : AV.under n (.map a : AV) = (a < n) := by simp [AV.under, unders_iff]
@[simp] theorem one_iter {a : Nat} : AV.one (.iter a : AV) = true := rfl
@[simp] theorem nc_iter {a : Nat} : AV.nc (.iter a : AV) = 1 := rfl
@[simp] theorem cells_iter {a : Nat} : AV.cells (.iter a : AV) = [(.iter a : AV)] := rfl
@[simp] theorem undr_iter {a : Nat} {n : Nat} : AV.under n (.iter a : AV) = (a < n) := by simp [AV.under, unders_iff]
@[simp] theorem one_nilF  : AV.one (.nilF : AV) = true := rfl
@[simp] theorem nc_nilF  : AV.nc (.nilF : AV) = 1 := rfl
@[simp] theorem cells_nilF  : AV.cells (.nilF : AV) = [(.nilF : AV)] := rfl
@[simp] theorem undr_nilF  {n : Nat} : AV.under n (.nilF : AV) = True := by simp [AV.under, unders_iff]
@[simp] theorem one_func {f : Fn} {l m : List AV} : AV.one (.func f l m : AV) = true := rfl
@[simp] theorem nc_func {f : Fn} {l m : List AV} : AV.nc (.func f l m : AV) = 1 := rfl
@[simp] theorem cells_func {f : Fn} {l m : List AV} : AV.cells (.func f l m : AV) = [(.func f l m : AV)] := rfl
@[simp] theorem undr_func {f : Fn} {l m : List AV} {n : Nat} : AV.under n (.func f l m : AV) = ((∀ x ∈ l, x.under n) ∧ ∀ x ∈ m, x.under n) := by simp [AV.under, unders_iff]
@[simp] theorem one_nilI  : AV.one (.nilI : AV) = true := rfl
@[simp] theorem nc_nilI  : AV.nc (.nilI : AV) = 1 := rfl
@[simp] theorem cells_nilI  : AV.cells (.nilI : AV) = [(.nilI : AV)] := rfl
@[simp] theorem undr_nilI  {n : Nat} : AV.under n (.nilI : AV) = True := by simp [AV.under, unders_iff]
@[simp] theorem one_iface {t : TypeId} {x : AV} : AV.one (.iface t x : AV) = true := rfl
@[simp] theorem nc_iface {t : TypeId} {x : AV} : AV.nc (.iface t x : AV) = 1 := rfl
@[simp] theorem cells_iface {t : TypeId} {x : AV} : AV.cells (.iface t x : AV) = [(.iface t x : AV)] := rfl
@[simp] theorem undr_iface {t : TypeId} {x : AV} {n : Nat} : AV.under n (.iface t x : AV) = (x.under n) := by simp [AV.under, unders_iff]
@[simp] theorem one_agg {l : List AV} : AV.one (.agg l : AV) = false := rfl
@[simp] theorem nc_agg {l : List AV} : AV.nc (.agg l : AV) = l.length := rfl
@[simp] theorem cells_agg {l : List AV} : AV.cells (.agg l : AV) = l := rfl
@[simp] theorem undr_agg {l : List AV} {n : Nat} : AV.under n (.agg l : AV) = (∀ x ∈ l, x.under n) := by simp [AV.under, unders_iff]
@[simp] theorem one_tup {l : List AV} : AV.one (.tup l : AV) = false := rfl
@[simp] theorem nc_tup {l : List AV} : AV.nc (.tup l : AV) = 1 := rfl
@[simp] theorem cells_tup {l : List AV} : AV.cells (.tup l : AV) = [(.tup l : AV)] := rfl
@[simp] theorem undr_tup {l : List AV} {n : Nat} : AV.under n (.tup l : AV) = (∀ x ∈ l, x.under n) := by simp [AV.under, unders_iff]
end Go.Ab
end
