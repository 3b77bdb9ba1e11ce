/- A part of a proof: rules for reading Go code as code over plain values, and what follows for this program. Its conditions stand in each statement. -/
import Derived.Test.YtackcjahocaonaaGreatDoorEvE
import Derived.KernelRfl
section
namespace Go.Ab
/-- Something of every place of a tree. -/
def AllAt {α : Type} (Q : Nat → α → Prop) : Nat → Nat → BT α → Prop
  | _, _, .nil => True
  | a, b, .node l v r => Q b v ∧ AllAt Q (2 * a) (a + b) l ∧ AllAt Q (2 * a) (2 * a + b) r
theorem AllAt.mk {α : Type} {Q : Nat → α → Prop} {a b : Nat} {l r : BT α} {v : α} (a' b1 b2 : Nat) (h1 : a' = 2 * a) (h2 : b1 = a + b) (h3 : b2 = 2 * a + b) (hv : Q b v) (hl : AllAt Q a' b1 l) (hr : AllAt Q a' b2 r) : AllAt Q a b (.node l v r) := by
  subst h1 h2 h3
  exact ⟨hv, hl, hr⟩
theorem AllAt.get {α : Type} {Q : Nat → α → Prop} {d : α} (hd : ∀ i, Q i d) : ∀ (t : BT α) (a b : Nat), AllAt Q a b t → ∀ s, Q (a * s + b) (BT.get d t s) := by
  intro t
  induction t with
  | nil => intro a b _ s; exact hd _
  | node l v r ihl ihr =>
    rintro a b ⟨hv, hl, hr⟩ s
    cases s with
    | zero => rw [Nat.mul_zero, Nat.zero_add]; exact hv
    | succ k =>
      rw [get_succ]
      split
      · have := ihl _ _ hl (k / 2)
        have e : 2 * a * (k / 2) + (a + b) = a * (k + 1) + b := by
          have : k = 2 * (k / 2) := by omega
          calc 2 * a * (k / 2) + (a + b) = a * (2 * (k / 2)) + (a + b) := by rw [Nat.mul_comm 2 a, Nat.mul_assoc]
            _ = a * k + (a + b) := by rw [← this]
            _ = a * (k + 1) + b := by rw [Nat.mul_add, Nat.mul_one, Nat.add_assoc]
        rw [e] at this
        exact this
      · have := ihr _ _ hr (k / 2)
        have e : 2 * a * (k / 2) + (2 * a + b) = a * (k + 1) + b := by
          have h1 : k = 2 * (k / 2) + 1 := by omega
          calc 2 * a * (k / 2) + (2 * a + b) = a * (2 * (k / 2) + 1 + 1) + b := by rw [Nat.mul_comm 2 a, Nat.mul_assoc, Nat.mul_add, Nat.mul_add]; omega
            _ = a * (k + 1) + b := by rw [← h1]
        rw [e] at this
        exact this
theorem AllAt.get1 {α : Type} {Q : Nat → α → Prop} (d : α) (hd : ∀ i, Q i d) (t : BT α) (h : AllAt Q 1 0 t) (s : Nat) : Q s (BT.get d t s) := by
  have := AllAt.get hd t 1 0 h s
  rw [Nat.one_mul, Nat.add_zero] at this
  exact this
def TiOk (P : Program) (t : TypeId) (x : TI) : Prop := (x.d ≠ .bad → x = P.ti t) ∧ (x.d = .bad → x.zero = .junk)
def tiB (x : TI) : Bool := match x.d with | .bad => isJunk x.zero | _ => true
theorem tiOk_of {P : Program} {t : TypeId} {x : TI} (h : P.ti t = x) (hb : tiB x = true) : TiOk P t x := by
  refine ⟨fun _ => h.symm, fun hd => ?_⟩
  unfold tiB at hb
  rw [hd] at hb
  simp only at hb
  cases hz : x.zero <;> rw [hz] at hb <;> first | rfl | cases hb
theorem tiOk_bad {P : Program} {t : TypeId} : TiOk P t ⟨.bad, 0, 0, .junk⟩ := ⟨fun h => absurd rfl h, fun _ => rfl⟩
def bodyOf (f : Func) : Code := match f.body with | some c => c | none => .skip
def ofFn (f : Func) (gc : Bool) (cls : RT) : FnC := ⟨f.ntmps, f.results.toList, bodyOf f, gc, cls, none⟩
def noCls : RT := fun _ => none
def FnOk (P : Program) (f : FuncId) : Option FnC → Prop
  | none => True
  | some c => ∃ fn, P.funcs[f]? = some fn ∧ fn.ntmps = c.ntmps ∧ fn.results.toList = c.results ∧ P.enters f = true ∧ BodyOk P fn c
theorem fnOk_of {P : Program} {f : FuncId} {fn : Func} {gc : Bool} {cls : RT} (h : P.funcs[f]? = some fn) (hb : fn.body.isSome = true) (hen : P.enters f = true) (hg : goodC cls fn.ntmps (bodyOf fn) = true) : FnOk P f (some (ofFn fn gc cls)) := by
  refine ⟨fn, h, rfl, rfl, hen, ?_, hg⟩
  unfold ofFn bodyOf
  cases hc : fn.body with
  | none => rw [hc] at hb; cases hb
  | some c => rfl
/-- The parts of a function that first defers. -/
def preOf (f : Func) : Code := match bodyOf f with | .seq a _ => a | c => c
def restOf (f : Func) : Code := match bodyOf f with | .seq _ (.seq _ c) => c | c => c
def behindOf (f : Func) : Code := match bodyOf f with | .seq _ c => c | c => c
def dfOf (f g : Func) (gi s : Nat) (cap : List Operand) (r : Nat) (gcls : RT) : DfC := ⟨preOf f, s, gi, cap, restOf f, g.ntmps, r, behindOf g, gcls⟩
def ofFnD (f : Func) (gc : Bool) (cls : RT) (d : DfC) : FnC := ⟨f.ntmps, f.results.toList, .skip, gc, cls, some d⟩
def regOps (c : Code) : Array Oper := match c with | .region _ ops _ => ops | _ => #[]
def opAt (c : Code) (i : Nat) : Oper := ((regOps c)[i]?).getD default
def headOf (f : Func) : Code := match bodyOf f with | .seq a _ => a | c => c
def midOf (f : Func) : Code := match bodyOf f with | .seq _ (.seq c _) => c | c => c
theorem fnOkD_of {P : Program} {f gi s r : Nat} {fn gn : Func} {gc : Bool} {cls gcls : RT} {cap : List Operand} (i1 i2 : Nat) (ts ts2 : Array TypeId) (h : P.funcs[f]? = some fn) (hen : P.enters f = true) (hg : P.funcs[gi]? = some gn) (hge : P.enters gi = true)
    (hb : fn.body = some (.seq (preOf fn) (.seq (.region i1 #[opAt (midOf fn) 0, opAt (midOf fn) 1] false) (restOf fn)))) (hgb : gn.body = some (.seq (.region i2 #[opAt (headOf gn) 0] false) (behindOf gn)))
    (h1 : (opAt (midOf fn) 0).guard = none) (h2 : (opAt (midOf fn) 1).guard = none) (h3 : (opAt (midOf fn) 1).dst = none) (h4 : (opAt (midOf fn) 0).op = .makeFunc (.func gi) #[] cap.toArray) (h5 : (opAt (midOf fn) 0).dst = some s)
    (h6 : (opAt (midOf fn) 1).op = .defer { callee := .value (.tmp s), args := #[], argTypes := ts }) (h7 : (opAt (headOf gn) 0).guard = none) (h8 : (opAt (headOf gn) 0).dst = some r) (h9 : (opAt (headOf gn) 0).op = .call { callee := .builtin .recover, args := #[], argTypes := ts2 })
    (h10 : gn.results = #[]) (h11 : (Nat.blt s fn.ntmps && Nat.blt r gn.ntmps && Nat.ble cap.length gn.ntmps) = true) (h12 : (goodC cls fn.ntmps (preOf fn) && goodC cls fn.ntmps (restOf fn) && goodC gcls gn.ntmps (behindOf gn)) = true) :
    FnOk P f (some (ofFnD fn gc cls (dfOf fn gn gi s cap r gcls))) := by
  simp only [Bool.and_eq_true, blt_lt, ble_le] at h11 h12
  exact ⟨fn, h, rfl, rfl, hen, i1, i2, _, _, gn, _, hb, h1, h2, h3, h4, h5, ⟨ts, h6⟩, h11.1.1, h12.1.1, h12.1.2, hg, hge, rfl, h10, hgb, h7, h8, h11.1.2, h11.2, ⟨ts2, h9⟩, h12.2⟩
theorem FnOk.use {P : Program} {f : FuncId} {x : Option FnC} (h : FnOk P f x) : ∀ c, x = some c → ∃ fn, P.funcs[f]? = some fn ∧ fn.ntmps = c.ntmps ∧ fn.results.toList = c.results ∧ P.enters f = true ∧ BodyOk P fn c := by
  rintro c rfl
  exact h
end Go.Ab
end
