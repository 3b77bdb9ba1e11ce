/- A part of a proof: rules for reading Go code as code over plain values, and what follows for this program. Its conditions stand in each statement. -/
import Derived.Test.YtackcjahocaonaaGreatDoorAbC
import Derived.Test.YtackcjahocaonaaGreatDoorAbD
section
/-! An evaluator for code from known values: a function that the kernel can run. Texts are by recursors where the kernel comes often. -/
namespace Go.Ab

/-! ### Trees that hold what slots, objects are -/
inductive BT (α : Type) where
  | nil
  | node (l : BT α) (v : α) (r : BT α)
  deriving Inhabited
noncomputable def BT.get {α : Type} (d : α) (t : BT α) : Nat → α :=
  BT.rec (motive := fun _ => Nat → α) (fun _ => d) (fun _ v _ gl gr s => Nat.rec v (fun k _ => Bool.rec (gr (Nat.div k 2)) (gl (Nat.div k 2)) (Nat.beq (Nat.mod k 2) 0)) s) t
/-- The same, by a plain recursion. -/
def BT.slow {α : Type} (d x : α) (t : BT α) (s : Nat) : BT α :=
  match s with
  | 0 => match t with | .nil => .node .nil x .nil | .node l _ r => .node l x r
  | k + 1 => match t with
    | .nil => if k % 2 = 0 then .node (BT.slow d x .nil (k / 2)) d .nil else .node .nil d (BT.slow d x .nil (k / 2))
    | .node l v r => if k % 2 = 0 then .node (BT.slow d x l (k / 2)) v r else .node l v (BT.slow d x r (k / 2))
termination_by s
decreasing_by all_goals omega
noncomputable def BT.putK {α R : Type} (d x : α) (f : Nat) : BT α → Nat → (BT α → R) → R :=
  Nat.rec (motive := fun _ => BT α → Nat → (BT α → R) → R) (fun t s k => k (BT.slow d x t s))
    (fun _ ih t s k => BT.rec (motive := fun _ => R)
      (Nat.rec (k (.node .nil x .nil)) (fun j _ => Bool.rec (ih .nil (Nat.div j 2) fun r => k (.node .nil d r)) (ih .nil (Nat.div j 2) fun l => k (.node l d .nil)) (Nat.beq (Nat.mod j 2) 0)) s)
      (fun l v r _ _ => Nat.rec (k (.node l x r)) (fun j _ => Bool.rec (ih r (Nat.div j 2) fun r' => k (.node l v r')) (ih l (Nat.div j 2) fun l' => k (.node l' v r)) (Nat.beq (Nat.mod j 2) 0)) s) t) f
noncomputable def nth {α : Type} (l : List α) : Nat → Option α :=
  List.rec (motive := fun _ => Nat → Option α) (fun _ => none) (fun x _ ih i => Nat.rec (some x) (fun j _ => ih j) i) l
noncomputable def lenK {α : Type} (l : List α) : Nat := List.rec (motive := fun _ => Nat) 0 (fun _ _ ih => Nat.succ ih) l

/-! ### Reckon it now -/
noncomputable def natK {R : Type} (n : Nat) (k : Nat → R) : R := Nat.rec (k 0) (fun m _ => k (Nat.succ m)) n
noncomputable def intK {R : Type} (i : Int) (k : Int → R) : R := Int.rec (fun n => natK n fun m => k (.ofNat m)) (fun n => natK n fun m => k (.negSucc m)) i
noncomputable def boolK {R : Type} (b : Bool) (k : Bool → R) : R := Bool.rec (k false) (k true) b
/-- A row's spine. -/
noncomputable def listK {α R : Type} (l : List α) (k : List α → R) : R :=
  List.rec (motive := fun _ => (List α → R) → R) (fun k => k []) (fun x _ ih k => ih fun r => k (x :: r)) l k
noncomputable def avK {R : Type} (x : AV) (k : AV → R) : R :=
  match x with
  | .int q i => intK i fun j => k (.int q j)
  | .bool b => boolK b fun c => k (.bool c)
  | .ptr a b => natK a fun a => natK b fun b => k (.ptr a b)
  | .vptr a b c d => natK a fun a => natK b fun b => natK c fun c => natK d fun d => k (.vptr a b c d)
  | .view a b c d => natK a fun a => natK b fun b => natK c fun c => natK d fun d => k (.view a b c d)
  | .eptr xs i o => natK i fun i => natK o fun o => k (.eptr xs i o)
  | .agg l => listK l fun l => k (.agg l)
  | .str l => listK l fun l => k (.str l)
  | .lst l => listK l fun l => k (.lst l)
  | x => k x
noncomputable def objK {R : Type} (o : AObj) (k : AObj → R) : R :=
  AObj.rec (motive := fun _ => R) (k .dead) (fun ty cs => listK cs fun cs => k (.cells ty cs)) (fun ty g s xs => natK g fun g => natK s fun s => listK xs fun xs => k (.row ty g s xs))
    (fun q es => listK es fun es => k (.map q es)) (fun m a b c => k (.iter m a b c)) (fun s p => natK p fun p => k (.siter s p)) o
end Go.Ab
end
section
set_option linter.unusedVariables false
namespace Go.Ab

/-! ### Numbers -/
def kbound : IntKind → Nat
  | .i8 => 128 | .i16 => 32768 | .i32 => 2147483648 | .i64 => 9223372036854775808
  | .u8 => 256 | .u16 => 65536 | .u32 => 4294967296 | .u64 => 18446744073709551616
def kneg : IntKind → Bool
  | .i8 | .i16 | .i32 | .i64 => true
  | _ => false
def wrapF (k : IntKind) (i : Int) : Int := match i with
  | .ofNat m => match Nat.blt m (kbound k) with | true => .ofNat m | false => k.wrap (.ofNat m)
  | .negSucc m => match kneg k && Nat.blt m (kbound k) with | true => .negSucc m | false => k.wrap (.negSucc m)
def addF (a b : Int) : Int := match a, b with
  | .ofNat m, .ofNat n => .ofNat (Nat.add m n)
  | a, b => a + b
def subF (a b : Int) : Int := match a, b with
  | .ofNat m, .ofNat n => match Nat.ble n m with | true => .ofNat (Nat.sub m n) | false => .negSucc (Nat.sub (Nat.sub n m) 1)
  | a, b => a - b
def mulF (a b : Int) : Int := match a, b with
  | .ofNat m, .ofNat n => .ofNat (Nat.mul m n)
  | a, b => a * b
def eqF (a b : Int) : Bool := match a, b with
  | .ofNat m, .ofNat n => Nat.beq m n
  | .negSucc m, .negSucc n => Nat.beq m n
  | _, _ => false
def ltF (a b : Int) : Bool := match a, b with
  | .ofNat m, .ofNat n => Nat.blt m n
  | .negSucc m, .negSucc n => Nat.blt n m
  | .negSucc _, .ofNat _ => true
  | .ofNat _, .negSucc _ => false
def kNo : IntKind → Nat
  | .i8 => 0 | .i16 => 1 | .i32 => 2 | .i64 => 3 | .u8 => 4 | .u16 => 5 | .u32 => 6 | .u64 => 7
def sameK (a b : IntKind) : Bool := Nat.beq (kNo a) (kNo b)
def eqB (a b : List UInt8) : Bool := match a, b with
  | [], [] => true
  | x :: xs, y :: ys => match Nat.beq x.toNat y.toNat with | true => eqB xs ys | false => false
  | _, _ => false

structure St where
  e : BT AV
  h : BT AObj
  n : Nat
  deriving Inhabited
noncomputable def slot (e : BT AV) (s : Nat) : AV := e.get .junk s
noncomputable def obj (h : BT AObj) (s : Nat) : AObj := h.get .dead s
noncomputable def ev1 (e : BT AV) (x : Operand) : AV := Operand.rec (motive := fun _ => AV) (fun t => BT.get .junk e t) (fun v => ofVal 6 v) (fun _ => .junk) (fun f => .func (.func f) [] []) x
noncomputable def evs (e : BT AV) (l : List Operand) : List AV := List.rec [] (fun x _ ih => ev1 e x :: ih) l
inductive Eff where
  | keep
  | push (o : AObj)
  | set (id : Nat) (o : AObj)

/-! ### One operation -/
inductive Ext1 where
  | indexByteString | noEscape | makeNoZero
structure Tab where
  ti : TypeId → TI
  ext : FuncId → Option Ext1
  u8 : TypeId
  /-- Structs that may be compared as they lie. -/
  cmp : TypeId → Bool
  /-- Is it unsafe.Pointer? -/
  unsf : TypeId → Bool
def TI.ok (t : TI) : Bool := match t.d with | .bad => false | _ => true
noncomputable def partT (t : TI) (cs : List AV) (off : Nat) : Option AV :=
  match t.d with
  | .bad => none
  | .struct _ | .array _ _ => match Nat.ble (off + t.size) (lenK cs) with | true => some (.agg ((cs.drop off).take t.size)) | false => none
  | _ => nth cs off
abbrev R1 := Option (AV × Eff)
def kp (x : AV) : R1 := some (x, .keep)
def kpO (x : Option AV) : R1 := match x with | some x => some (x, .keep) | none => none
def chk (b : Bool) (r : R1) : R1 := match b with | true => r | false => none

noncomputable def evLoad (h : BT AObj) (t : TI) (x : AV) : R1 := match x with
  | .ptr id off => match obj h id with | .cells _ cs => kpO (partT t cs off) | _ => none
  | .eptr xs i off => match nth xs i with | some z => kpO (partT t z.cells off) | none => none
  | .vptr id g i off => match obj h id with
    | .row _ g' _ xs => chk (Nat.beq g g') (match nth xs i with | some z => kpO (partT t z.cells off) | none => none)
    | _ => none
  | _ => none
noncomputable def evStore (h : BT AObj) (t : TI) (y x : AV) : R1 := match x with
  | .ptr id off => match obj h id with
    | .cells ty cs => chk (y.solid && t.ok && Nat.beq y.nc t.size && Nat.ble (off + y.nc) (lenK cs)) (some (.tup [], .set id (.cells ty (putCells cs off y.cells))))
    | _ => none
  | .vptr id g i off => match obj h id with
    | .row ty g' sz xs => match nth xs i with
      | some u => chk (Nat.beq g g' && y.solid && t.ok && Nat.beq y.nc t.size && Nat.ble (off + y.nc) u.nc) (some (.tup [], .set id (.row ty g' sz (xs.set i (u.putAt off y.cells)))))
      | none => none
    | _ => none
  | _ => none
noncomputable def fld (t : TI) (f : Nat) : Option (TypeId × Nat × Bool) := match t.d with | .struct fs => nth fs f | _ => none
noncomputable def evBuild (T : Tab) (fs : List (TypeId × Nat × Bool)) : List (Nat × AV) → List AV → Option (List AV)
  | [], cs => some cs
  | (i, y) :: r, cs => match nth fs i with
    | some (ft, off, _) => match Nat.beq y.nc (T.ti ft).size && Nat.ble (off + y.nc) (lenK cs) && y.solid with
      | true => evBuild T fs r (putCells cs off y.cells)
      | false => none
    | none => none
/-- Are two values one and the same: numbers, texts, bools, and what is made of such. -/
def eqCell (l : LK) (x y : AV) : Option Bool := match l with
  | .int j => match x, y with | .int k a, .int q b => (match sameK j k && sameK j q with | true => some (eqF a b) | false => none) | _, _ => none
  | .str => match x, y with | .str a, .str b => some (eqB a b) | _, _ => none
  | .bool => match x, y with | .bool a, .bool b => some (a == b) | _, _ => none
def eqCells : List LK → List AV → List AV → Option Bool
  | [], [], [] => some true
  | l :: ls, x :: xs, y :: ys => match eqCell l x y, eqCells ls xs ys with
    | some a, some b => some (a && b)
    | _, _ => none
  | _, _, _ => none
def intKinds : List LK → Option (List IntKind)
  | [] => some []
  | .int k :: r => match intKinds r with | some ks => some (k :: ks) | none => none
  | _ => none
def eqRes (op : BinOp) (b : Bool) : R1 := match op with | .eql => kp (.bool b) | .neq => kp (.bool (!b)) | _ => none
def isConst : Operand → Bool | .const _ => true | _ => false
def isSlice (t : TI) : Bool := match t.d with | .slice _ => true | _ => false
def isMap (t : TI) : Bool := match t.d with | .map _ _ => true | _ => false
def isPtr (t : TI) : Bool := match t.d with | .pointer _ => true | _ => false
def isIface (t : TI) : Bool := match t.d with | .iface _ => true | _ => false
def isString (t : TI) : Bool := match t.d with | .string => true | _ => false
def isBool (t : TI) : Bool := match t.d with | .bool => true | _ => false
def evInt (op : BinOp) (k : IntKind) (a : Int) (q : IntKind) (b : Int) : R1 := match op with
  | .shl | .shr => chk (!ltF b 0) (kp (shiftOp op k a b))
  | .quo | .rem => chk (sameK k q && !eqF b 0) (kp (intOp op k a b))
  | .add => chk (sameK k q) (kp (.int k (wrapF k (addF a b))))
  | .sub => chk (sameK k q) (kp (.int k (wrapF k (subF a b))))
  | .mul => chk (sameK k q) (kp (.int k (wrapF k (mulF a b))))
  | .eql => chk (sameK k q) (kp (.bool (eqF a b)))
  | .neq => chk (sameK k q) (kp (.bool (!eqF a b)))
  | .lss => chk (sameK k q) (kp (.bool (ltF a b)))
  | .gtr => chk (sameK k q) (kp (.bool (ltF b a)))
  | .leq => chk (sameK k q) (kp (.bool (!ltF b a)))
  | .geq => chk (sameK k q) (kp (.bool (!ltF a b)))
  | op => chk (sameK k q) (kp (intOp op k a b))
noncomputable def evStr (op : BinOp) (a b : List UInt8) : R1 := match op with
  | .add => chk (Nat.ble (lenK a + lenK b) 9223372036854775807) (kp (.str (a ++ b)))
  | .eql => kp (.bool (eqB a b))
  | .neq => kp (.bool (!eqB a b))
  | .lss | .gtr | .leq | .geq => kp (strOp op a b)
  | _ => none
noncomputable def evBin (T : Tab) (h : BT AObj) (op : BinOp) (t : TypeId) (lit : Bool) (x y : AV) : R1 :=
  match x with
  | .int k a => match y with | .int q b => evInt op k a q b | _ => none
  | .str a => match y with | .str b => evStr op a b | _ => none
  | .bool a => match y with | .bool b => chk (isBool (T.ti t)) (eqRes op (a == b)) | _ => none
  | x => match x, y with
    | .nilS, .nilS => chk (isSlice (T.ti t)) (eqRes op true)
    | .lst (_ :: _), .nilS => chk (isSlice (T.ti t)) (eqRes op false)
    | .zS, .nilS => chk (isSlice (T.ti t)) (eqRes op false)
    | .view id g _ len, .nilS => match obj h id with
      | .row _ g' _ xs => chk (isSlice (T.ti t) && Nat.beq g g' && (Nat.blt 0 len || !xs.isEmpty)) (eqRes op false)
      | _ => none
    | .nilP, .nilP => chk (isPtr (T.ti t)) (eqRes op true)
    | .ptr _ _, .nilP => chk (isPtr (T.ti t)) (eqRes op false)
    | .ptr i a, .ptr j b => match (T.ti t).d with | .pointer el => chk ((T.ti el).ok && !(Nat.beq (T.ti el).size 0) && Nat.beq i j && Nat.beq a b) (eqRes op true) | _ => none
    | .nilM, .nilM => chk (isMap (T.ti t)) (eqRes op true)
    | .map _, .nilM => chk (isMap (T.ti t)) (eqRes op false)
    | .nilI, .nilI => chk (lit && isIface (T.ti t)) (eqRes op true)
    | .iface _ _, .nilI => chk (isIface (T.ti t)) (eqRes op false)
    | .agg xs, .agg ys => match T.cmp t, leaves T.ti (T.ti t).d with
      | true, some ls => match eqCells ls xs ys with | some b => eqRes op b | none => none
      | _, _ => none
    | _, _ => none
noncomputable def evNil (h : BT AObj) (x : AV) : R1 := match x with
  | .ptr .. | .eptr .. | .map _ | .func (.func _) [] _ => kp x
  | .vptr id g _ _ => match obj h id with | .row _ g' _ _ => chk (Nat.beq g g') (kp x) | _ => none
  | _ => none
noncomputable def elemsH (h : BT AObj) (x : AV) : Option (List AV) := match x with
  | .nilS | .zS => some []
  | .lst xs => some xs
  | .view id g off len => match len with
    | 0 => some []
    | len => match obj h id with
      | .row _ g' _ xs => match Nat.beq g g' && Nat.ble (off + len) (lenK xs) with | true => some ((xs.drop off).take len) | false => none
      | _ => none
  | .str s => some (s.map fun b => .int .u8 b.toNat)
  | _ => none
noncomputable def evConv (T : Tab) (h : BT AObj) (n : Nat) (s d : TI) (x : AV) : R1 := match x with
  | .int _ i => match d.d with
    | .int k => chk s.ok (kp (.int k (wrapF k i)))
    | .string => chk s.ok (kp (.str (Utf8.encode i).data.toList))
    | _ => none
  | .str b => match s.d, d.d with
    | .string, .string => kp (.str b)
    | .string, .slice el => match (T.ti el).d with
      | .int .i32 => match runesA b with
        | rs => some (.view n 1 0 (lenK rs), .push (.row el 1 1 rs))
      | _ => none
    | _, _ => none
  | x => match s.d, d.d with
    | .slice el, .string => match (T.ti el).d, elemsH h x with
      | .int .i32, some ys => match encA ys with | some b => kp (.str b) | none => none
      | .int .u8, some ys => match bytA ys with | some b => kp (.str b) | none => none
      | _, _ => none
    | _, _ => none
/-- A pointer seen as unsafe.Pointer, and back. -/
noncomputable def oUns (T : Tab) (h : BT AObj) (s d : TypeId) (id off : Nat) : R1 := match T.unsf d with
  | true => match (T.ti s).d, obj h id with
    | .pointer t, .cells _ cs => match T.ti t with | ti => chk (ti.ok && !(Nat.beq ti.size 0) && Nat.blt off (lenK cs)) (kp (.ptr id off))
    | _, _ => none
  | false => match T.unsf s with
    | true => match (T.ti d).d, obj h id with
      | .pointer u, .cells ty cs => match T.ti u with | ti => chk (ti.ok && !(Nat.beq ti.size 0) && Nat.beq ty u && Nat.beq off 0 && Nat.ble ti.size (lenK cs)) (kp (.ptr id 0))
      | _, _ => none
    | false => none
noncomputable def oConv (T : Tab) (h : BT AObj) (n : Nat) (s d : TypeId) (x : AV) : R1 := match x with
  | .ptr id off => oUns T h s d id off
  | x => evConv T h n (T.ti s) (T.ti d) x
noncomputable def evSlice (T : Tab) (h : BT AObj) (d : Desc) (l u : Nat) (x : AV) : R1 := match x with
  | .str s => match d with
    | .string => chk (Nat.ble l u && Nat.ble u (lenK s)) (kp (.str ((s.drop l).take (u - l))))
    | _ => none
  | .lst xs => match d with
    | .slice el => chk ((T.ti el).ok && xs.all (fun z => Nat.beq z.nc (T.ti el).size) && Nat.ble l u && Nat.ble u (lenK xs)) (kp (.lst ((xs.drop l).take (u - l))))
    | _ => none
  | .nilS => match d with
    | .slice el => chk ((T.ti el).ok && Nat.beq l 0 && Nat.beq u 0) (kp .nilS)
    | _ => none
  | .view id g off len => match d, obj h id with
    | .slice el, .row _ g' sz _ => chk (Nat.beq g g' && (T.ti el).ok && Nat.beq (T.ti el).size sz && Nat.ble l u && Nat.ble u len) (match Nat.blt l len with | true => kp (.view id g (off + l) (u - l)) | false => chk (Nat.blt 0 g) (kp (.view id 0 0 0)))
    | _, _ => none
  | _ => none
noncomputable def evIndexAddr (T : Tab) (h : BT AObj) (d : Desc) (i : Nat) (x : AV) : R1 := match x with
  | .ptr id off => match d with
    | .array n el => chk (Nat.blt i n && (T.ti el).ok) (kp (.ptr id (off + i * (T.ti el).size)))
    | _ => none
  | .lst xs => match d, nth xs i with
    | .slice el, some z => chk ((T.ti el).ok && Nat.beq z.nc (T.ti el).size) (kp (.eptr xs i 0))
    | _, _ => none
  | .view id g off len => match d, obj h id with
    | .slice el, .row _ g' _ xs => match nth xs (off + i) with
      | some z => chk (Nat.beq g g' && Nat.blt i len && (T.ti el).ok && Nat.beq z.nc (T.ti el).size) (kp (.vptr id g (off + i) 0))
      | none => none
    | _, _ => none
  | _ => none
noncomputable def evIndex (d : Desc) (i : Nat) (x : AV) : R1 := match x with
  | .str s => match d, nth s i with
    | .string, some b => kp (.int .u8 (.ofNat b.toNat))
    | _, _ => none
  | _ => none
def ktT (T : Tab) (kT : TypeId) : Option KT := match (T.ti kT).d with
  | .int q => some (.int q)
  | .string => some .str
  | .bool => some .bool
  | .struct fs => match T.cmp kT, leaves T.ti (.struct fs) with
    | true, some ls => match intKinds ls with | some ks => some (.nums ks) | none => none
    | _, _ => none
  | .array n el => match T.cmp kT, leaves T.ti (.array n el) with
    | true, some ls => match intKinds ls with | some ks => some (.nums ks) | none => none
    | _, _ => none
  | _ => none
def bLess : List UInt8 → List UInt8 → Bool
  | [], [] => false
  | [], _ => true
  | _, [] => false
  | a :: x, b :: y => match Nat.blt a.toNat b.toNat with
    | true => true
    | false => match Nat.beq a.toNat b.toNat with | true => bLess x y | false => false
def iLess : List Int → List Int → Bool
  | [], [] => false
  | [], _ => true
  | _, [] => false
  | a :: x, b :: y => match ltF a b with
    | true => true
    | false => match eqF a b with | true => iLess x y | false => false
def iEq : List Int → List Int → Bool
  | [], [] => true
  | a :: x, b :: y => match eqF a b with | true => iEq x y | false => false
  | _, _ => false
def Key.less (a b : Key) : Bool := match a, b with
  | .int a, .int b => ltF a b
  | .str a, .str b => bLess a b
  | .bool a, .bool b => !a && b
  | .nums a, .nums b => iLess a b
  | _, _ => false
def Key.eqb (a b : Key) : Bool := match a, b with
  | .int a, .int b => eqF a b
  | .str a, .str b => eqB a b
  | .bool a, .bool b => a == b
  | .nums a, .nums b => iEq a b
  | _, _ => false
def mgetF (es : List (Key × AV)) (k : Key) : Option AV := match es with
  | [] => none
  | (q, v) :: r => match k.eqb q with | true => some v | false => mgetF r k
def mputF (es : List (Key × AV)) (k : Key) (z : AV) : List (Key × AV) := match es with
  | [] => [(k, z)]
  | (q, v) :: r => match k.eqb q with | true => (q, z) :: r | false => (q, v) :: mputF r k z
/-- Put into its place. -/
def mins (es : List (Key × AV)) (k : Key) (z : AV) : List (Key × AV) := match es with
  | [] => [(k, z)]
  | (q, u) :: r => match k.less q with
    | true => (k, z) :: (q, u) :: r
    | false => (q, u) :: mins r k z
/-- A key's value turned, or a new key in its place in the row. -/
def mset (es : List (Key × AV)) (k : Key) (z : AV) : List (Key × AV) := match mgetF es k with
  | some _ => mputF es k z
  | none => mins es k z
def KT.eqb (a b : KT) : Bool := match a, b with
  | .int a, .int b => sameK a b
  | .str, .str | .bool, .bool => true
  | .nums a, .nums b => decide (a = b)
  | _, _ => false
def isJunk : AV → Bool | .junk => true | _ => false
def lookRes (z : AV) (ok : Bool) (r : Option AV) : R1 := chk (!isJunk z) (match r with
  | some v => match ok with | true => kp (.tup [v, .bool true]) | false => kp v
  | none => match ok with | true => kp (.tup [z, .bool false]) | false => kp z)
noncomputable def evLookup (T : Tab) (h : BT AObj) (d : Desc) (y : AV) (ok : Bool) (x : AV) : R1 :=
  match d with
  | .map kT eT => match ktT T kT with
    | some kt' => match y.key kt' with
      | some k => match x with
        | .map id => match obj h id with
          | .map kt es => chk (kt'.eqb kt) (lookRes (T.ti eT).zero ok (mgetF es k))
          | _ => none
        | .nilM => lookRes (T.ti eT).zero ok none
        | _ => none
      | none => none
    | none => none
  | _ => none
noncomputable def evUpdate (T : Tab) (h : BT AObj) (d : Desc) (y z x : AV) : R1 := match x with
  | .map id => match d, obj h id with
    | .map kT _, .map kt es => match ktT T kT, y.key kt with
      | some kt', some k => chk (kt'.eqb kt) (some (.tup [], .set id (.map kt (mset es k z))))
      | _, _ => none
    | _, _ => none
  | _ => none
noncomputable def evAppend (T : Tab) (h : BT AObj) (n : Nat) (t1 t2 : TypeId) (y x : AV) : R1 :=
  match (T.ti t1).d, elemsH h y with
  | .slice el, some ys => match T.ti el with
    | ti => chk ((isString (T.ti t2) || isSlice (T.ti t2)) && ti.ok && ti.zero.solid && Nat.beq ti.zero.nc ti.size && Nat.blt 0 ti.bytes && ys.all (fun z => Nat.beq z.nc ti.size && z.solid)) (match x with
      | .nilS => match ys with
        | [] => kp .nilS
        | ys => chk (Nat.ble (lenK ys * ti.bytes) 140737488355328) (some (.view n 1 0 (lenK ys), .push (.row el 1 ti.size ys)))
      | .zS => match ys with
        | [] => kp .zS
        | ys => chk (Nat.ble (lenK ys * ti.bytes) 140737488355328) (some (.view n 1 0 (lenK ys), .push (.row el 1 ti.size ys)))
      | .view id g off len => match obj h id with
        | .row ty g' sz xs => chk (Nat.beq ty el && Nat.beq g g' && Nat.ble (off + len) (lenK xs) && Nat.beq ti.size sz && Nat.ble ((len + lenK ys) * ti.bytes) 140737488355328)
          (some (.view id (g + 1) 0 (len + lenK ys), .set id (.row el (g + 1) sz ((xs.drop off).take len ++ ys))))
        | _ => none
      | _ => none)
  | _, _ => none
noncomputable def lenH (T : Tab) (h : BT AObj) (t : TypeId) (x : AV) : Option Nat := match x with
  | .str s => match isString (T.ti t) with | true => some (lenK s) | _ => none
  | .nilS | .zS => match isSlice (T.ti t) with | true => some 0 | _ => none
  | .lst xs => match isSlice (T.ti t) with | true => some (lenK xs) | _ => none
  | .view _ _ _ n => match isSlice (T.ti t) with | true => some n | _ => none
  | .map id => match isMap (T.ti t), obj h id with | true, .map _ es => some (lenK es) | _, _ => none
  | .nilM => match isMap (T.ti t) with | true => some 0 | _ => none
  | _ => none
noncomputable def splice {α : Type} (xs : List α) (off : Nat) (ys : List α) : List α := xs.take off ++ ys ++ xs.drop (off + lenK ys)
noncomputable def evCopy (T : Tab) (h : BT AObj) (t : TypeId) (y x : AV) : R1 := match x with
  | .nilS => match (T.ti t).d, elemsH h y with | .slice el, some ys => chk ((T.ti el).ok && ys.all (fun z => Nat.beq z.nc (T.ti el).size)) (kp (.int .i64 0)) | _, _ => none
  | .view id g off len => match (T.ti t).d, obj h id, elemsH h y with
    | .slice el, .row ty g' sz xs, some ys =>
      chk (Nat.beq g g' && Nat.ble (off + len) (lenK xs) && (T.ti el).ok && Nat.beq (T.ti el).size sz && ys.all (fun z => Nat.beq z.nc sz && z.solid))
        (some (.int .i64 (.ofNat (Nat.min (lenK ys) len)), .set id (.row ty g' sz (splice xs off (ys.take (Nat.min (lenK ys) len))))))
    | _, _, _ => none
  | _ => none
noncomputable def evClear (T : Tab) (h : BT AObj) (t : TypeId) (x : AV) : R1 := match x with
  | .nilS => chk (isSlice (T.ti t)) (kp (.tup []))
  | .view id g off len => match (T.ti t).d, obj h id with
    | .slice el, .row ty g' sz xs => match T.ti el with
      | ti => chk (Nat.beq g g' && Nat.ble (off + len) (lenK xs) && ti.ok && Nat.beq ti.size sz && ti.zero.solid && Nat.beq ti.zero.nc sz)
        (some (.tup [], .set id (.row ty g' sz (splice xs off (List.replicate len ti.zero)))))
    | _, _ => none
  | _ => none
def evMinMax (mx : Bool) : List AV → R1
  | [.int k a, .int q b] => chk (sameK k q) (kp (.int k (match mx with | true => (match ltF a b with | true => b | false => a) | false => (match ltF b a with | true => b | false => a))))
  | _ => none
noncomputable def evUnsafe (T : Tab) (h : BT AObj) (pt : TypeId) (m : Int) (x : AV) : R1 := match x with
  | .nilP => chk (eqF m 0) (kp (.str []))
  | .vptr id g i 0 => match m with
    | .ofNat 0 => kp (.str [])
    | .ofNat m => match obj h id, (T.ti pt).d with
      | .row ty g' sz xs, .pointer el => match (T.ti el).d, bytA ((xs.drop i).take m) with
        | .int .u8, some b => chk (Nat.beq ty el && Nat.beq g g' && Nat.beq sz 1 && Nat.beq (T.ti el).size 1 && Nat.ble (i + m) (lenK xs) && Nat.ble m 9223372036854775807) (some (.str b, .set id .dead))
        | _, _ => none
      | _, _ => none
    | _ => none
  | _ => none
noncomputable def evBuiltin (T : Tab) (h : BT AObj) (n : Nat) (b : Builtin) (xs : List AV) (ts : List TypeId) : R1 :=
  match b with
  | .len => match xs, ts with | [x], [t] => (match lenH T h t x with | some k => kp (.int .i64 (.ofNat k)) | none => none) | _, _ => none
  | .append => match xs, ts with | [s, x], [t1, t2] => evAppend T h n t1 t2 x s | _, _ => none
  | .copy => match xs, ts with | [x, y], [t, _] => evCopy T h t y x | _, _ => none
  | .clear => match xs, ts with | [x], [t] => evClear T h t x | _, _ => none
  | .max => evMinMax true xs
  | .min => evMinMax false xs
  | .cap => match xs, ts with | [.nilS], [t] => chk (isSlice (T.ti t)) (kp (.int .i64 0)) | _, _ => none
  | .unsafeSliceData => match xs with
    | [.nilS] => kp .nilP
    | [.view id g off len] => match obj h id with
      | .row _ g' _ xs => chk (Nat.beq g g' && Nat.blt 0 g && Nat.ble (off + len) (lenK xs)) (match len with | 0 => none | _ => kp (.vptr id g off 0))
      | _ => none
    | _ => none
  | .unsafeString => match xs, ts with | [x, .int _ m], [pt, _] => evUnsafe T h pt m x | _, _ => none
  | _ => none
noncomputable def evExt (u8 : TypeId) (n : Nat) (x : Ext1) (args : List AV) : R1 := match x with
  | .indexByteString => match args with | [.str s, .int .u8 (.ofNat c)] => chk (Nat.blt c 256) (kp (.int .i64 (findByte s c 0))) | _ => none
  | .noEscape => match args with | [x] => kp x | _ => none
  | .makeNoZero => match args with | [.int .i64 (.ofNat m)] => chk (Nat.ble m 4294967296) (some (.view n 1 0 m, .push (.row u8 1 1 (List.replicate m .junk)))) | _ => none
noncomputable def evTypeAssert (T : Tab) (x : AV) (asserted : TypeId) (ok : Bool) : R1 :=
  match (T.ti asserted).d with
  | .iface _ | .bad => none
  | _ => match x with
    | .iface t' v => match Nat.beq t' asserted, ok with
      | true, true => kp (.tup [v, .bool true])
      | true, false => kp v
      | false, true => chk (!isJunk (T.ti asserted).zero) (kp (.tup [(T.ti asserted).zero, .bool false]))
      | false, false => none
    | .nilI => match ok with | true => chk (!isJunk (T.ti asserted).zero) (kp (.tup [(T.ti asserted).zero, .bool false])) | false => none
    | _ => none
noncomputable def boundR (e : BT AV) (x : Option Operand) (d : Nat) : Option Nat := match x with
  | none => some d
  | some x => match ev1 e x with | .int _ (.ofNat i) => some i | _ => none
noncomputable def lenV (x : AV) : Option Nat := match x with
  | .str s => some (lenK s)
  | .nilS | .zS => some 0
  | .lst xs => some (lenK xs)
  | .view _ _ _ n => some n
  | _ => none
noncomputable def slice0 (T : Tab) (h : BT AObj) (d : Desc) (x : AV) : R1 := match d with
  | .slice el => chk (T.ti el).ok (match x with
    | .nilS => kp .nilS
    | .zS | .lst (_ :: _) => kp .zS
    | .view id g _ (_ + 1) => match obj h id with | .row _ g' _ _ => chk (Nat.beq g g') (kp .zS) | _ => none
    | _ => none)
  | _ => none
noncomputable def oSlice (T : Tab) (t : TypeId) (e : BT AV) (h : BT AObj) (x : AV) (lo hi mx : Option Operand) : R1 :=
  match mx with
  | none => match boundR e lo 0, lenV x with
    | some l, some k => match boundR e hi k with | some u => evSlice T h (T.ti t).d l u x | none => none
    | _, _ => none
  | some m => match lo, hi with
    | none, some hi => match ev1 e hi, ev1 e m with
      | .int _ (.ofNat 0), .int _ (.ofNat 0) => slice0 T h (T.ti t).d x
      | _, _ => none
    | _, _ => none
noncomputable def oPick (c : AV) (x y : AV) : R1 := match c with | .bool b => Bool.rec (kp y) (kp x) b | _ => none
def oAlloc (n : Nat) (t : TypeId) (z : AV) : R1 := chk z.solid (some (.ptr n 0, .push (.cells t z.cells)))
noncomputable def oBuild (T : Tab) (t : TI) (ps : List (Nat × AV)) : R1 := match t.d, t.zero with
  | .struct fs, .agg zs => chk (fs.all fun f => (T.ti f.1).ok) (match evBuild T fs ps zs with | some cs => kp (.agg cs) | none => none)
  | .array k el, .agg zs => chk ((T.ti el).ok) (match evBuild T ((List.range k).map fun i => (el, i * (T.ti el).size, false)) ps zs with | some cs => kp (.agg cs) | none => none)
  | _, _ => none
def oBuildSlice (T : Tab) (t : TI) (len : Nat) (is : List Nat) (ys : List AV) : R1 := match t.d with
  | .slice el => match T.ti el with
    | ti => chk (ti.ok && ti.zero.solid && Nat.beq ti.zero.nc ti.size && decide (is = List.range len) && ys.all (fun y => Nat.beq y.nc ti.size && y.solid) && Nat.ble (len * ti.size) 16777216) (kp (match ys with | [] => .zS | _ => .lst ys))
  | _ => none
def oMakeMap (T : Tab) (n : Nat) (t : TI) (r : Bool) : R1 := match t.d with
  | .map kT _ => match ktT T kT with
    | some kt => chk r (some (.map n, .push (.map kt [])))
    | none => none
  | _ => none
def oMakeSlice (T : Tab) (n : Nat) (t : TI) (l c : AV) : R1 := match t.d, l, c with
  | .slice el, .int _ (.ofNat a), .int _ (.ofNat b) => match T.ti el with
    | ti => chk (Nat.ble a b && Nat.ble b 9223372036854775807 && ti.ok && ti.zero.solid && Nat.beq ti.zero.nc ti.size && Nat.ble (ti.bytes * b) 281474976710656)
      (match b with | 0 => kp .zS | b => some (.view n 1 0 a, .push (.row el 1 ti.size (List.replicate b ti.zero))))
  | _, _, _ => none
noncomputable def oFieldAddr (T : Tab) (h : BT AObj) (f : Option (TypeId × Nat × Bool)) (x : AV) : R1 := match f with
  | some (ft, off, _) => chk ((T.ti ft).ok && !(Nat.beq (T.ti ft).size 0)) (match x with
    | .ptr id o => kp (.ptr id (o + off))
    | .eptr xs i o => kp (.eptr xs i (o + off))
    | .vptr id g i o => match obj h id with | .row _ g' _ _ => chk (Nat.beq g g') (kp (.vptr id g i (o + off))) | _ => none
    | _ => none)
  | none => none
noncomputable def oField (T : Tab) (f : Option (TypeId × Nat × Bool)) (x : AV) : R1 := match f, x with
  | some (ft, off, _), .agg cs => kpO (partT (T.ti ft) cs off)
  | _, _ => none
noncomputable def oIndexAddr (T : Tab) (h : BT AObj) (t : TypeId) (x ix : AV) : R1 := match ix with | .int _ (.ofNat i) => evIndexAddr T h (T.ti t).d i x | _ => none
noncomputable def oIndex (T : Tab) (t : TypeId) (x ix : AV) : R1 := match ix with | .int _ (.ofNat i) => evIndex (T.ti t).d i x | _ => none
noncomputable def oExtract (x : AV) (i : Nat) : R1 := match x with | .tup xs => kpO (nth xs i) | _ => none
def oIface (t : TypeId) (ti : TI) (x : AV) : R1 := match ti.d with | .bad | .iface _ => none | _ => kp (.iface t x)
noncomputable def oRange (T : Tab) (h : BT AObj) (n : Nat) (t : TypeId) (x : AV) : R1 := match x with
  | .str s => chk (isString (T.ti t)) (some (.iter n, .push (.siter s 0)))
  | .map id => match obj h id with
    | .map _ es => chk (isMap (T.ti t)) (some (.iter n, .push (.iter id (es.map (·.1)) (es.map (·.1)) none)))
    | _ => none
  | _ => none
noncomputable def oNextS (h : BT AObj) (x : AV) : R1 := match x with
  | .iter id => match obj h id with
    | .siter s pos => match Nat.blt pos (lenK s) with
      | true => match Utf8.decode (ba s) pos with
        | (c, w) => some (.tup [.bool true, .int .i64 (.ofNat pos), .int .i32 (.ofNat c)], .set id (.siter s (pos + w)))
      | false => kp (.tup [.bool false])
    | _ => none
  | _ => none
noncomputable def oEntry (h : BT AObj) (x : AV) : R1 := match x with
  | .iter id => match obj h id with
    | .iter m keys _ (some k) => match obj h m with
      | .map kt es => match mgetF es k with | some v => chk (Nat.beq (lenK es) (lenK keys)) (kp (.tup [k.av kt, v])) | none => none
      | _ => none
    | _ => none
  | _ => none
def oNot (x : AV) : R1 := match x with | .bool b => kp (.bool (!b)) | _ => none
def oNeg (x : AV) : R1 := match x with | .int k i => kp (.int k (k.wrap (0 - i))) | _ => none
noncomputable def oUn (op : UnOp) (x : AV) : R1 := match op with | .not => oNot x | .neg => oNeg x | _ => none
def isInt : AV → Bool | .int _ _ => true | _ => false
noncomputable def oReserve (e : BT AV) (r : Option Operand) : Bool := match r with | none => true | some x => isInt (ev1 e x)
noncomputable def oCall (T : Tab) (e : BT AV) (h : BT AObj) (n : Nat) (c : Call) : R1 := match c.callee with
  | .builtin b => evBuiltin T h n b (evs e c.args.toList) c.argTypes.toList
  | .value f => match f with
    | .func f => match T.ext f with | some x => evExt T.u8 n x (evs e c.args.toList) | none => none
    | _ => none
  | _ => none
noncomputable def evOp (T : Tab) (op : Op) (e : BT AV) (h : BT AObj) (n : Nat) : R1 :=
  match op with
  | .move x => kp (ev1 e x)
  | .assign x => kp (ev1 e x)
  | .pick c x y => oPick (ev1 e c) (ev1 e x) (ev1 e y)
  | .alloc t => oAlloc n t (T.ti t).zero
  | .box t x => oAlloc n t (ev1 e x)
  | .build t parts => oBuild T (T.ti t) (parts.toList.map fun x => (x.1, ev1 e x.2))
  | .buildSlice t len parts => oBuildSlice T (T.ti t) len (parts.toList.map (·.1)) (parts.toList.map fun x => ev1 e x.2)
  | .load t x => evLoad h (T.ti t) (ev1 e x)
  | .store t x z => evStore h (T.ti t) (ev1 e z) (ev1 e x)
  | .nilCheck x => evNil h (ev1 e x)
  | .binOp op t x y _ => evBin T h op t (isConst x || isConst y) (ev1 e x) (ev1 e y)
  | .unOp op _ x => oUn op (ev1 e x)
  | .convert s d x => oConv T h n s d (ev1 e x)
  | .makeInterface t x => oIface t (T.ti t) (ev1 e x)
  | .makeFunc fn first cap => kp (.func fn (evs e first.toList) (evs e cap.toList))
  | .makeMap t r => oMakeMap T n (T.ti t) (oReserve e r)
  | .makeSlice t l c => oMakeSlice T n (T.ti t) (ev1 e l) (ev1 e c)
  | .slice t x lo hi mx => oSlice T t e h (ev1 e x) lo hi mx
  | .fieldAddr s x f => oFieldAddr T h (fld (T.ti s) f) (ev1 e x)
  | .field s x f => oField T (fld (T.ti s) f) (ev1 e x)
  | .indexAddr t x ix => oIndexAddr T h t (ev1 e x) (ev1 e ix)
  | .index t x ix => oIndex T t (ev1 e x) (ev1 e ix)
  | .lookup t x ix ok => evLookup T h (T.ti t).d (ev1 e ix) ok (ev1 e x)
  | .mapUpdate t m k x => evUpdate T h (T.ti t).d (ev1 e k) (ev1 e x) (ev1 e m)
  | .insert t m k x => evUpdate T h (T.ti t).d (ev1 e k) (ev1 e x) (ev1 e m)
  | .extract t i => oExtract (ev1 e t) i
  | .typeAssert x _ a ok => evTypeAssert T (ev1 e x) a ok
  | .range t x => oRange T h n t (ev1 e x)
  | .next x true => oNextS h (ev1 e x)
  | .entry x => oEntry h (ev1 e x)
  | .call c => oCall T e h n c
  | _ => none
def hasKey (l : List Key) (k : Key) : Bool := match l with | [] => false | q :: r => match k.eqb q with | true => true | false => hasKey r k
def allIn (a b : List Key) : Bool := match a with | [] => true | k :: r => match hasKey b k with | true => allIn r b | false => false
noncomputable def sameKeys (a b : List Key) : Bool := Nat.beq (lenK a) (lenK b) && allIn a b && allIn b a
def dropKey (l : List Key) (k : Key) : List Key := match l with | [] => [] | q :: r => match k.eqb q with | true => r | false => q :: dropKey r k
/-- The next key of a map: any of those that are left. -/
noncomputable def evNext (h : BT AObj) (x : AV) : Option (List (AV × Eff)) :=
  match x with
  | .iter id => match obj h id with
    | .iter m keys left _ => match obj h m with
      | .map kt es => match sameKeys keys (es.map (·.1)) with
        | true => match left with
          | [] => some [(.tup [.bool false], .keep)]
          | l => some (l.map fun k => (.tup [.bool true, k.av kt, (mgetF es k).getD .junk], .set id (.iter m keys (dropKey left k) (some k))))
        | false => none
      | _ => none
    | _ => none
  | _ => none
end Go.Ab
end
section
set_option linter.unusedVariables false
namespace Go.Ab
/-! ### Like states -/
def beqL {α : Type} (f : α → α → Bool) : List α → List α → Bool
  | [], [] => true
  | x :: xs, y :: ys => match f x y with | true => beqL f xs ys | false => false
  | _, _ => false
def AV.beqF : Nat → AV → AV → Bool
  | 0, _, _ => false
  | n + 1, x, y => match x, y with
    | .junk, .junk | .nilS, .nilS | .zS, .zS | .nilP, .nilP | .nilM, .nilM | .nilF, .nilF | .nilI, .nilI => true
    | .bool a, .bool b => a == b
    | .int k a, .int q b => sameK k q && eqF a b
    | .str a, .str b => eqB a b
    | .lst a, .lst b | .agg a, .agg b | .tup a, .tup b => beqL (AV.beqF n) a b
    | .view a b c d, .view a' b' c' d' | .vptr a b c d, .vptr a' b' c' d' => Nat.beq a a' && Nat.beq b b' && Nat.beq c c' && Nat.beq d d'
    | .ptr a b, .ptr c d => Nat.beq a c && Nat.beq b d
    | .eptr a i o, .eptr b j p => beqL (AV.beqF n) a b && Nat.beq i j && Nat.beq o p
    | .map a, .map b | .iter a, .iter b => Nat.beq a b
    | .func (.func f) a b, .func (.func g) c d => Nat.beq f g && beqL (AV.beqF n) a c && beqL (AV.beqF n) b d
    | .iface t a, .iface u b => Nat.beq t u && AV.beqF n a b
    | _, _ => false
def AObj.beqF (n : Nat) (x y : AObj) : Bool := match x, y with
  | .dead, .dead => true
  | .cells t a, .cells t' b => Nat.beq t t' && beqL (AV.beqF n) a b
  | .row t g s a, .row t' g' s' b => Nat.beq t t' && Nat.beq g g' && Nat.beq s s' && beqL (AV.beqF n) a b
  | .map k a, .map q b => decide (k = q) && beqL (fun x y => x.1.eqb y.1 && AV.beqF n x.2 y.2) a b
  | .iter m a b c, .iter m' a' b' c' => Nat.beq m m' && beqL Key.eqb a a' && beqL Key.eqb b b' && (match c, c' with | none, none => true | some k, some q => k.eqb q | _, _ => false)
  | .siter s p, .siter t q => eqB s t && Nat.beq p q
  | _, _ => false
noncomputable def beqObjs (a b : BT AObj) : Nat → Bool
  | 0 => true
  | n + 1 => match AObj.beqF 12 (obj a n) (obj b n) with | true => beqObjs a b n | false => false
def beqEnv : BT AV → BT AV → Bool
  | .nil, .nil => true
  | .node l v r, .node l' v' r' => AV.beqF 12 v v' && beqEnv l l' && beqEnv r r'
  | _, _ => false
noncomputable def St.beq (a b : St) : Bool := Nat.beq a.n b.n && beqEnv a.e b.e && beqObjs a.h b.h a.n
def AX.beqX (x y : AX) : Bool := match x, y with
  | .normal, .normal | .ret, .ret => true
  | .exit i, .exit j => Nat.beq i j
  | _, _ => false
def AEnd.beqE (x y : AEnd) : Bool := match x, y with
  | .ret a, .ret b | .panic a, .panic b => AV.beqF 12 a b
  | _, _ => false
noncomputable def dedup {α : Type} (f : α → α → Bool) : List α → List α
  | [] => []
  | x :: xs => match xs.any (f x) with | true => dedup f xs | false => x :: dedup f xs
/-! ### What a value leads to -/
def maxK (a b : Nat) : Nat := match Nat.ble a b with | true => b | false => a
def goMax (f : AV → Option Nat) : List AV → Nat → Option Nat
  | [], k => some k
  | x :: xs, k => match f x with | some 0 => goMax f xs k | some j => goMax f xs (maxK k j) | none => none
def AV.maxF : Nat → AV → Option Nat
  | 0, _ => none
  | n + 1, x => match x with
    | .lst xs | .agg xs | .tup xs | .eptr xs _ _ => goMax (AV.maxF n) xs 0
    | .view i _ _ _ | .vptr i _ _ _ | .ptr i _ | .map i | .iter i => some (i + 1)
    | .func _ a b => match goMax (AV.maxF n) a 0 with | some k => goMax (AV.maxF n) b k | none => none
    | .iface _ y => AV.maxF n y
    | _ => some 0
def maxs (xs : List AV) (k : Nat) : Option Nat := goMax (AV.maxF 12) xs k
def AObj.maxF (o : AObj) : Option Nat := match o with
  | .cells _ cs | .row _ _ _ cs => maxs cs 0
  | .map _ es => maxs (es.map (·.2)) 0
  | .iter m _ _ _ => some (m + 1)
  | _ => some 0
/-- What objects up to a number lead to. -/
noncomputable def maxObjs (h : BT AObj) : Nat → Nat → Option Nat
  | 0, k => some k
  | n + 1, k => match (obj h n).maxF with | some 0 => maxObjs h n k | some j => maxObjs h n (maxK k j) | none => none
def maxEnv : BT AV → Nat → Option Nat
  | .nil, k => some k
  | .node l v r, k => match AV.maxF 12 v with
    | some j => match maxEnv l (maxK k j) with | some i => maxEnv r i | none => none
    | none => none
/-- Slots that were empty before are let go. -/
def meet : BT AV → BT AV → BT AV
  | .node l0 v0 r0, .node l v r => .node (meet l0 l) (match v0 with | .junk => .junk | _ => v) (meet r0 r)
  | _, _ => .nil
noncomputable def St.cut (e : BT AV) (h : BT AObj) (n : Nat) : Nat → Nat → St
  | 0, _ => ⟨e, h, n⟩
  | f + 1, m => match maxObjs h m m with
    | some k => match Nat.ble k m with
      | true => match Nat.ble m n with | true => ⟨e, h, m⟩ | false => ⟨e, h, n⟩
      | false => St.cut e h n f k
    | none => ⟨e, h, n⟩
noncomputable def norm (σ0 σ : St) : St :=
  match meet σ0.e σ.e with
  | e => match maxEnv e σ0.n with
    | some m => St.cut e σ.h σ.n 8 m
    | none => ⟨e, σ.h, σ.n⟩
/-- A value whose slices are rows of some objects, as lists. -/
def goSeal (f : AV → Option AV) : List AV → Option (List AV)
  | [] => some []
  | x :: xs => match f x, goSeal f xs with | some y, some ys => some (y :: ys) | _, _ => none
noncomputable def sealF (h : BT AObj) (n0 : Nat) : Nat → AV → Option AV
  | 0, _ => none
  | n + 1, x => match x with
    | .view id g off len => match Nat.ble n0 id with
      | false => some (.view id g off len)
      | true => match obj h id with
        | .row _ g' _ xs => match Nat.beq g g' && Nat.ble (off + len) (lenK xs) && Nat.blt 0 len with
          | true => match goSeal (sealF h n0 n) ((xs.drop off).take len) with | some ys => some (.lst ys) | none => none
          | false => none
        | _ => none
    | .agg xs => match goSeal (sealF h n0 n) xs with | some ys => some (.agg ys) | none => none
    | .tup xs => match goSeal (sealF h n0 n) xs with | some ys => some (.tup ys) | none => none
    | x => some x

abbrev Outs := List (AX × St)
abbrev Ends := List (AEnd × St)
/-- What a table says of a region whose order is drawn: slots that point to what is read beside what is written, classes. -/
structure RC where
  mask : Option (List Nat)
  cl : List Nat
abbrev RS := Option (BT AObj) × List Nat
abbrev RT := Nat → Option RC
/-- A function that first defers a closure which recovers: what comes before, the closure's slot, the closure, what it holds, what comes behind; the closure's code behind its 'recover'. -/
structure DfC where
  pre : Code
  s : Nat
  g : FuncId
  cap : List Operand
  rest : Code
  gn : Nat
  r : Nat
  grest : Code
  gcls : RT
structure FnC where
  ntmps : Nat
  results : List ResultVar
  body : Code
  gc : Bool
  cls : RT
  dfr : Option DfC
structure Prg where
  T : Tab
  fn : FuncId → Option FnC
  /-- Functions that leave all as it is, and what they answer. -/
  pure : FuncId → List AV → Option AV
  /-- Calls whose ends are known: from objects to ends. -/
  orc : FuncId → List AV → BT AObj → Nat → Option (List (AEnd × BT AObj × Nat))
noncomputable def callsR (e : BT AV) (c : Call) : Option (FuncId × List AV) :=
  match c.callee with
  | .value f => match ev1 e f with
    | .func fn first cap => match fn with
      | .func id => match first, cap with
        | [], [] => some (id, evs e c.args.toList)
        | _, _ => some (id, first ++ evs e c.args.toList ++ cap)
      | _ => none
    | _ => none
  | _ => none
noncomputable def guardR (all : Array Oper) (e : BT AV) (j : Nat) (b : Bool) : Option Bool :=
  match nth all.toList j with
  | some o => match o.dst with
    | some d => match slot e d with
      | .bool c => some (c == b)
      | .tup [] => some false
      | _ => none
    | none => none
  | none => none
noncomputable def resR (T : Tab) (σ : St) (r : ResultVar) : Option AV := match r with
  | .tmp t => some (slot σ.e t)
  | .cell a ty => match slot σ.e a with
    | .ptr id off => match Nat.blt id σ.n with
      | true => match obj σ.h id with
        | .cells _ cs => partT (T.ti ty) cs off
        | _ => none
      | false => none
    | _ => none
noncomputable def resRs (T : Tab) (σ : St) : List ResultVar → Option (List AV)
  | [] => some []
  | r :: rs => match resR T σ r, resRs T σ rs with
    | some x, some xs => some (x :: xs)
    | _, _ => none
noncomputable def argK {R : Type} (l : List AV) : Nat → BT AV → (BT AV → R) → R :=
  List.rec (motive := fun _ => Nat → BT AV → (BT AV → R) → R) (fun _ t k => k t) (fun x _ ih i t k => BT.putK .junk x 24 t i fun t' => ih (Nat.succ i) t' k) l
noncomputable def allM {α β : Type} (f : α → Option (List β)) : List α → Option (List β)
  | [] => some []
  | x :: xs => match xs with
    | [] => f x
    | _ => match f x, allM f xs with | some l, some r => some (l ++ r) | _, _ => none
inductive Job where
  | code (D : RT) (c : Code)
  | ops (all : Array Oper) (l : List Oper) (cls : Option RS)
  | loop (D : RT) (c : Code) (σ0 : St) (more : List St) (done : Outs)
noncomputable def effK {R : Type} (eff : Eff) (h : BT AObj) (n : Nat) (k : BT AObj → Nat → R) : R :=
  Eff.rec (motive := fun _ => R) (k h n) (fun o => objK o fun o => BT.putK .dead o 24 h n fun h' => k h' (Nat.succ n)) (fun id o => objK o fun o => BT.putK .dead o 24 h id fun h' => k h' n) eff
noncomputable def putE {R : Type} (d : Option Nat) (v : AV) (e : BT AV) (k : BT AV → R) : R := Option.rec (motive := fun _ => R) (k e) (fun d => BT.putK .junk v 24 e d k) d
noncomputable def plainK {R : Type} (r : R1) (d : Option Nat) (e : BT AV) (h : BT AObj) (n : Nat) (k : St → Option R) : Option R :=
  Option.rec (motive := fun _ => Option R) none (fun p => avK p.1 fun v => effK p.2 h n fun h n => putE d v e fun e => k ⟨e, h, n⟩) r
def R1.kept (r : R1) : R1 := match r with | some (v, .keep) => some (v, .keep) | _ => none
abbrev Ev := Job → St → Option Outs
def headC (cls : Option RS) : Nat := match cls with | some (_, c :: _) => c | _ => 2
def keepsC (c : Nat) : Bool := Nat.ble c 1 || Nat.beq c 3 || Nat.beq c 4
def tailC (cls : Option RS) : Option RS := match cls with
  | none => none
  | some (hs, []) => some (none, [])
  | some (hs, c :: r) => match keepsC c with | true => some (hs, r) | false => some (none, r)
def curS (cls : Option RS) : Option (BT AObj) := match cls with | some (some hs, _) => some hs | _ => none
/-- Class 4 only where something is said of the objects. -/
noncomputable def gate (cls : Option RS) (r : Option Outs) : Option Outs := match cls with
  | none => r
  | some (some _, _) => r
  | some (none, []) => r
  | some (none, c :: _) => match Nat.beq c 4 || Nat.beq c 3 with | true => none | false => r
/-- What is written must not be among what is read. -/
noncomputable def chk4 (hs : BT AObj) (n : Nat) (r : R1) : R1 := match r with
  | some (v, .keep) => some (v, .keep)
  | some (v, .push o) => match obj hs n with | .dead => some (v, .push o) | _ => none
  | some (v, .set id o) => match obj hs id with | .dead => some (v, .set id o) | _ => none
  | none => none
noncomputable def evPlain (P : Prg) (ih : Ev) (all : Array Oper) (o : Oper) (rest : List Oper) (cls : Option RS) (σ : St) : Option Outs :=
  match headC cls with
  | 0 => plainK (R1.kept (evOp P.T o.op σ.e .nil 0)) o.dst σ.e σ.h σ.n fun τ => ih (.ops all rest (tailC cls)) τ
  | 1 => plainK (R1.kept (evOp P.T o.op σ.e σ.h σ.n)) o.dst σ.e σ.h σ.n fun τ => ih (.ops all rest (tailC cls)) τ
  | 3 => match curS cls with
    | some hs => plainK (R1.kept (evOp P.T o.op σ.e hs 0)) o.dst σ.e σ.h σ.n fun τ => ih (.ops all rest (tailC cls)) τ
    | none => none
  | 4 => match curS cls with
    | some hs => plainK (chk4 hs σ.n (evOp P.T o.op σ.e σ.h σ.n)) o.dst σ.e σ.h σ.n fun τ => ih (.ops all rest (tailC cls)) τ
    | none => none
  | 2 => plainK (evOp P.T o.op σ.e σ.h σ.n) o.dst σ.e σ.h σ.n fun τ => ih (.ops all rest (tailC cls)) τ
  | _ => none
/-- What is left behind a function's end. -/
noncomputable def finK (gc : Bool) (e0 : BT AV) (n0 : Nat) (v : AV) (h : BT AObj) (n : Nat) : AV × St := match gc with
  | false => (v, ⟨e0, h, n⟩)
  | true => match sealF h n0 8 v with
    | some y => match AV.maxF 12 y, maxObjs h n0 0 with
      | some a, some b => match Nat.ble a n0 && Nat.ble b n0 && Nat.ble n0 n with
        | true => (y, ⟨e0, h, n0⟩)
        | false => (v, ⟨e0, h, n⟩)
      | _, _ => (v, ⟨e0, h, n⟩)
    | none => (v, ⟨e0, h, n⟩)
noncomputable def endOf (T : Tab) (c : FnC) (e0 : BT AV) (n0 : Nat) (x : AX) (τ : St) : Option (AEnd × St) := match x with
  | .normal | .ret => match resRs T τ c.results with
    | some xs => match finK c.gc e0 n0 (tupOf xs) τ.h τ.n with | (v, τ') => some (.ret v, τ')
    | none => none
  | .panic v => some (.panic v, ⟨e0, τ.h, τ.n⟩)
  | _ => none
noncomputable def endsOf (T : Tab) (c : FnC) (e0 : BT AV) (n0 : Nat) : Outs → Option Ends
  | [] => some []
  | y :: r => match endOf T c e0 n0 y.1 y.2, endsOf T c e0 n0 r with
    | some z, some rest => some (z :: rest)
    | _, _ => none
noncomputable def dedupEnds (l : Ends) : Ends := match l with
  | [] => []
  | [x] => [x]
  | l => dedup (fun a b => AEnd.beqE a.1 b.1 && Nat.beq a.2.n b.2.n && beqEnv a.2.e b.2.e && beqObjs a.2.h b.2.h a.2.n) l
noncomputable def goEnd (ih : Ev) (all : Array Oper) (o : Oper) (rest : List Oper) (cls : Option RS) (y : AEnd × St) : Option Outs := match y.1 with
  | .ret v => avK v fun v => putE o.dst v y.2.e fun e => ih (.ops all rest cls) ⟨e, y.2.h, y.2.n⟩
  | .panic x => match cls with | none => some [(.panic x, y.2)] | some _ => none
noncomputable def goEnds (ih : Ev) (all : Array Oper) (o : Oper) (rest : List Oper) (cls : Option RS) (l : Ends) : Option Outs := match cls with
  | none => allM (goEnd ih all o rest none) l
  | some cl => match l with | [y] => goEnd ih all o rest (some cl) y | _ => none
def recOf : AX → Option AV
  | .normal | .ret => some .nilI
  | .panic (.iface t v) => some (.iface t v)
  | _ => none
noncomputable def endD (T : Tab) (c : FnC) (e0 : BT AV) (n0 : Nat) (te : BT AV) (y : AX × St) : Option Ends := match y.1 with
  | .normal | .ret => match resRs T ⟨te, y.2.h, y.2.n⟩ c.results with
    | some xs => match finK c.gc e0 n0 (tupOf xs) y.2.h y.2.n with | (v, τ') => some [(.ret v, τ')]
    | none => none
  | _ => none
noncomputable def evFnD (P : Prg) (ih : Ev) (c : FnC) (d : DfC) (args : List AV) (σ : St) : Option Ends :=
  match argK args 0 .nil fun e => ih (.code c.cls d.pre) ⟨e, σ.h, σ.n⟩ with
  | some [(.normal, τ1)] => match putE (some d.s) (.func (.func d.g) [] (evs τ1.e d.cap)) τ1.e fun e1 => ih (.code c.cls d.rest) ⟨e1, τ1.h, τ1.n⟩ with
    | some outs => allM (fun y => match recOf y.1 with
      | some rv => match argK (evs τ1.e d.cap) 0 .nil fun e => putE (some d.r) rv e fun e => ih (.code d.gcls d.grest) ⟨e, y.2.h, y.2.n⟩ with
        | some outs' => allM (endD P.T c σ.e σ.n y.2.e) outs'
        | none => none
      | none => none) outs
    | none => none
  | _ => none
noncomputable def evFn (P : Prg) (ih : Ev) (f : FuncId) (args : List AV) (σ : St) : Option Ends := match P.fn f with
  | some c => match Nat.ble (lenK args) c.ntmps with
    | true => match c.dfr with
      | none => match argK args 0 .nil fun e => ih (.code c.cls c.body) ⟨e, σ.h, σ.n⟩ with
        | some outs => match endsOf P.T c σ.e σ.n outs with
          | some l => some (dedupEnds l)
          | none => none
        | none => none
      | some d => match evFnD P ih c d args σ with
        | some l => some (dedupEnds l)
        | none => none
    | false => none
  | none => none
noncomputable def evCall (P : Prg) (ih : Ev) (all : Array Oper) (o : Oper) (rest : List Oper) (cls : Option RS) (σ : St) (f : FuncId) (args : List AV) : Option Outs :=
  match P.pure f args with
  | some v => gate cls (avK v fun v => putE o.dst v σ.e fun e => ih (.ops all rest (tailC cls)) ⟨e, σ.h, σ.n⟩)
  | none => match headC cls with
    | 1 => match evFn P ih f args σ with
      | some [(.ret v, τ)] => match Nat.beq τ.n σ.n && beqObjs τ.h σ.h σ.n with
        | true => avK v fun v => putE o.dst v σ.e fun e => ih (.ops all rest (tailC cls)) ⟨e, σ.h, σ.n⟩
        | false => none
      | _ => none
    | 2 => match P.orc f args σ.h σ.n with
      | some l => goEnds ih all o rest (tailC cls) (l.map fun x => (x.1, ⟨σ.e, x.2.1, x.2.2⟩))
      | none => match evFn P ih f args σ with
        | some l => goEnds ih all o rest (tailC cls) l
        | none => none
    | _ => none
noncomputable def goNexts (ih : Ev) (all : Array Oper) (o : Oper) (rest : List Oper) (σ : St) (l : List (AV × Eff)) : Option Outs :=
  allM (fun y => plainK (some y) o.dst σ.e σ.h σ.n fun τ => ih (.ops all rest none) τ) l
noncomputable def evMove (ih : Ev) (all : Array Oper) (o : Oper) (rest : List Oper) (cls : Option RS) (σ : St) (x : AV) : Option Outs :=
  gate cls (putE o.dst x σ.e fun e => ih (.ops all rest (tailC cls)) ⟨e, σ.h, σ.n⟩)
noncomputable def evAct (P : Prg) (ih : Ev) (all : Array Oper) (o : Oper) (rest : List Oper) (cls : Option RS) (σ : St) : Option Outs :=
  match o.op with
  | .call c => match callsR σ.e c with
    | some (f, args) => match P.T.ext f with
      | some _ => evPlain P ih all o rest cls σ
      | none => evCall P ih all o rest cls σ f args
    | none => evPlain P ih all o rest cls σ
  | .next x false => match cls with
    | none => match evNext σ.h (ev1 σ.e x) with
      | some l => goNexts ih all o rest σ l
      | none => none
    | _ => none
  | .panic x => match cls, ev1 σ.e x with
    | none, .iface t v => some [(.panic (.iface t v), σ)]
    | _, _ => none
  | .move x => evMove ih all o rest cls σ (ev1 σ.e x)
  | .assign x => evMove ih all o rest cls σ (ev1 σ.e x)
  | _ => evPlain P ih all o rest cls σ
noncomputable def evGuard (P : Prg) (ih : Ev) (all : Array Oper) (o : Oper) (rest : List Oper) (cls : Option RS) (σ : St) (g : Option Bool) : Option Outs := match g with
  | some true => evAct P ih all o rest cls σ
  | some false => gate cls (putE o.dst (.tup []) σ.e fun e => ih (.ops all rest (tailC cls)) ⟨e, σ.h, σ.n⟩)
  | none => none
noncomputable def evOps (P : Prg) (ih : Ev) (all : Array Oper) (l : List Oper) (cls : Option RS) (σ : St) : Option Outs :=
  List.rec (motive := fun _ => Option Outs) (some [(.normal, σ)]) (fun o rest _ =>
    Option.rec (motive := fun _ => Option Outs) (evAct P ih all o rest cls σ) (fun g => evGuard P ih all o rest cls σ (guardR all σ.e g.1 g.2)) o.guard) l
def isNormal (x : AX) : Bool := match x with | .normal => true | _ => false
noncomputable def dedupOuts (l : Outs) : Outs := match l with
  | [] => []
  | [x] => [x]
  | l => dedup (fun a b => AX.beqX a.1 b.1 && St.beq a.2 b.2) l
noncomputable def normX (σ0 : St) (y : AX × St) : AX × St := match y.1 with | .panic v => (.panic v, y.2) | x => (x, norm σ0 y.2)
noncomputable def loopMany (ih : Ev) (D : RT) (c : Code) (σ0 : St) (done l : Outs) : Option Outs :=
  match dedupOuts (l.map (normX σ0)) with
  | l' => match dedupOuts (l'.filter (fun y => !isNormal y.1) ++ done) with
    | done' => match (l'.filter fun y => isNormal y.1).map (·.2) with
      | [] => some done'
      | τ :: ts => ih (.loop D c σ0 ts done') τ
noncomputable def evLoop (ih : Ev) (D : RT) (c : Code) (σ0 : St) (more : List St) (done : Outs) (σ : St) : Option Outs :=
  match allM (fun τ => ih (.code D c) τ) (σ :: more) with
  | none => none
  | some l => match done with
    | [] => match l with
      | [y] => match y.1 with
        | .normal => ih (.loop D c σ0 [] []) y.2
        | _ => some [y]
      | l => loopMany ih D c σ0 [] l
    | done => loopMany ih D c σ0 done l
noncomputable def seqK (ih : Ev) (D : RT) (b : Code) (l : Option Outs) : Option Outs := match l with
  | none => none
  | some l => allM (fun y => match y.1 with | .normal => ih (.code D b) y.2 | x => some [(x, y.2)]) l
def blockX (id : Nat) (x : AX) : AX := match x with | .exit i => (match Nat.beq i id with | true => .normal | false => .exit i) | x => x
noncomputable def evCond (ih : Ev) (D : RT) (x : AV) (a b : Code) (σ : St) : Option Outs := match x with
  | .bool t => Bool.rec (ih (.code D b) σ) (ih (.code D a) σ) t
  | _ => none
/-- Only the objects that some slots point to. -/
noncomputable def keepT (e : BT AV) (h : BT AObj) : List Nat → BT AObj
  | [] => .nil
  | s :: r => match slot e s with
    | .ptr id _ => BT.putK .dead (obj h id) 24 (keepT e h r) id fun x => x
    | .vptr id _ _ _ => BT.putK .dead (obj h id) 24 (keepT e h r) id fun x => x
    | .view id _ _ _ => BT.putK .dead (obj h id) 24 (keepT e h r) id fun x => x
    | _ => keepT e h r
noncomputable def startS (σ : St) (m : Option (List Nat)) : Option (BT AObj) := match m with
  | none => none
  | some l => some (keepT σ.e σ.h l)
noncomputable def evRegion (ih : Ev) (D : RT) (id : Nat) (ops : Array Oper) (dr : Bool) (σ : St) : Option Outs := match dr with
  | false => ih (.ops ops ops.toList none) σ
  | true => match D id with | some rc => ih (.ops ops ops.toList (some (startS σ rc.mask, rc.cl))) σ | none => none
noncomputable def evBlock (id : Nat) (l : Option Outs) : Option Outs := match l with
  | some l => some (l.map fun y => (blockX id y.1, y.2))
  | none => none
noncomputable def evCode (P : Prg) (ih : Ev) (D : RT) (c : Code) (σ : St) : Option Outs := match c with
  | .skip => some [(.normal, σ)]
  | .seq a b => seqK ih D b (ih (.code D a) σ)
  | .region id ops dr => evRegion ih D id ops dr σ
  | .cond c a b => evCond ih D (ev1 σ.e c) a b σ
  | .block id c => evBlock id (ih (.code D c) σ)
  | .loop c => ih (.loop D c σ [] []) σ
  | .exit i => some [(.exit i, σ)]
  | .ret => some [(.ret, σ)]
  | .label _ => some [(.normal, σ)]
  | _ => none
noncomputable def evStep (P : Prg) (ih : Ev) (j : Job) (σ : St) : Option Outs :=
  Job.rec (motive := fun _ => Option Outs) (fun D c => evCode P ih D c σ) (fun all l cls => evOps P ih all l cls σ) (fun D c σ0 more done => evLoop ih D c σ0 more done σ) j
noncomputable def ev (P : Prg) (n : Nat) : Job → St → Option Outs := Nat.rec (motive := fun _ => Job → St → Option Outs) (fun _ _ => none) (fun _ ih j σ => evStep P ih j σ) n
end Go.Ab
end
