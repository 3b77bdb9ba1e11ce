/- A part of a proof: rules for reading Go code as code over plain values, and what follows for this program. Its conditions stand in each statement. -/
import Derived.Test.YtackcjahocaonaaGreatDoorAbB
import Derived.Orders
section
set_option linter.unusedSimpArgs false
set_option linter.unusedVariables false
namespace Go.Ab
variable {P : Program}

/-! ### Ends of code -/
inductive AX where
  | normal | exit (id : Nat) | goto (l : Nat) | ret | panic (x : AV)
def XRel (n : Nat) (G : Ghost) : AX → Exit → Prop
  | .normal, .normal => True
  | .exit i, .exit j => i = j
  | .goto i, .goto j => i = j
  | .ret, .ret => True
  | .panic x, .panic [c] => c.recovered = false ∧ c.goexit = false ∧ V n G x c.v
  | _, _ => False
abbrev Post := AX → Env → Heap → Prop
/-- What holds where code ends. -/
def Holds (N : Fr) (G0 : Ghost) (n0 : Nat) (w0 : World) (Q : Post) : Exit → Act → World → Prop := fun x a w =>
  ∃ ax e H G, XRel H.length G ax x ∧ Q ax e H ∧ Rel G H w ∧ EnvRel N H.length G e a ∧ Step n0 H.length G0 w0 G w
theorem Holds.trans {N : Fr} {n0 n1 : Nat} {G0 G1 : Ghost} {w0 w1 : World} {Q : Post} {x : Exit} {a : Act} {w : World} (s : Step n0 n1 G0 w0 G1 w1) (h : Holds N G1 n1 w1 Q x a w) : Holds N G0 n0 w0 Q x a w :=
  let ⟨ax, e, H, G, h1, h2, h3, h4, h5⟩ := h; ⟨ax, e, H, G, h1, h2, h3, h4, s.trans h5⟩
theorem Holds.mono {N : Fr} {n0 : Nat} {G0 : Ghost} {w0 : World} {Q Q' : Post} {x : Exit} {a : Act} {w : World} (hq : ∀ x e H, Q x e H → Q' x e H) (h : Holds N G0 n0 w0 Q x a w) : Holds N G0 n0 w0 Q' x a w :=
  let ⟨ax, e, H, G, h1, h2, h3, h4, h5⟩ := h; ⟨ax, e, H, G, h1, hq _ _ _ h2, h3, h4, h5⟩

/-- Code from slots 'e' and objects 'H'. -/
def AWP (P : Program) (N : Fr) (c : Code) (e : Env) (H : Heap) (Q : Post) : Prop :=
  ∀ (G : Ghost) (a : Act) (w : World), Rel G H w → EnvRel N H.length G e a → c.wp P (Holds N G H.length w Q) a w

variable {N : Fr} {e : Env} {H : Heap} {Q : Post}
theorem AWP.mono {c : Code} {Q' : Post} (h : AWP P N c e H Q) (hq : ∀ x e H, Q x e H → Q' x e H) : AWP P N c e H Q' :=
  fun G a w hR hE => wp_mono (h G a w hR hE) fun _ _ _ k => k.mono hq

/-- What comes behind. -/
def thenQ (P : Program) (N : Fr) (b : Code) (Q : Post) : Post := fun x e H => match x with | .normal => AWP P N b e H Q | x => Q x e H
theorem thenQ_normal {b : Code} (h : AWP P N b e H Q) : thenQ P N b Q .normal e H := h
theorem thenQ_ret {b : Code} (h : Q .ret e H) : thenQ P N b Q .ret e H := h
theorem thenQ_exit {b : Code} {i : Nat} (h : Q (.exit i) e H) : thenQ P N b Q (.exit i) e H := h
theorem thenQ_panic {b : Code} {x : AV} (h : Q (.panic x) e H) : thenQ P N b Q (.panic x) e H := h
theorem awp_seq {a b : Code} (h : AWP P N a e H (thenQ P N b Q)) : AWP P N (.seq a b) e H Q := by
  intro G ac w hR hE
  refine wp_seq (wp_mono (h G ac w hR hE) ?_)
  rintro x a' w' ⟨ax, e', H', G', hx, hq, hR', hE', hs⟩
  cases x with
  | normal =>
    cases ax <;> simp only [XRel] at hx
    exact wp_mono (hq G' a' w' hR' hE') fun _ _ _ k => k.trans hs
  | exit i =>
    cases ax <;> simp only [XRel] at hx
    subst hx
    exact ⟨.exit _, e', H', G', rfl, hq, hR', hE', hs⟩
  | goto i =>
    cases ax <;> simp only [XRel] at hx
    subst hx
    exact ⟨.goto _, e', H', G', rfl, hq, hR', hE', hs⟩
  | ret =>
    cases ax <;> simp only [XRel] at hx
    exact ⟨.ret, e', H', G', trivial, hq, hR', hE', hs⟩
  | panic c =>
    cases ax <;> simp only [XRel] at hx
    rename_i y
    exact ⟨.panic y, e', H', G', hx, hq, hR', hE', hs⟩
  | outgrown => cases ax <;> simp only [XRel] at hx
theorem awp_skip (h : Q .normal e H) : AWP P N .skip e H Q := fun G a w hR hE => wp_skip ⟨.normal, e, H, G, trivial, h, hR, hE, Step.refl _ _ _⟩
theorem awp_ret (h : Q .ret e H) : AWP P N .ret e H Q := fun G a w hR hE => wp_ret ⟨.ret, e, H, G, trivial, h, hR, hE, Step.refl _ _ _⟩
theorem awp_exit {i : Nat} (h : Q (.exit i) e H) : AWP P N (.exit i) e H Q := fun G a w hR hE => wp_exit ⟨.exit i, e, H, G, rfl, h, hR, hE, Step.refl _ _ _⟩
theorem awp_cond {c : Operand} {x y : Code} {b : Bool} (hc : e.ev c = .bool b) (ht : b = true → AWP P N x e H Q) (hf : b = false → AWP P N y e H Q) : AWP P N (.cond c x y) e H Q := by
  intro G a w hR hE
  have h := hE.ev c
  rw [hc] at h
  simp only [V] at h
  exact wp_cond_split h (fun k => ht k G a w hR hE) (fun k => hf k G a w hR hE)
def blockQ (id : Nat) (Q : Post) : Post := fun x e H => match x with | .exit i => if i = id then Q .normal e H else Q (.exit i) e H | x => Q x e H
theorem blockQ_normal {id : Nat} (h : Q .normal e H) : blockQ id Q .normal e H := h
theorem blockQ_ret {id : Nat} (h : Q .ret e H) : blockQ id Q .ret e H := h
theorem blockQ_panic {id : Nat} {x : AV} (h : Q (.panic x) e H) : blockQ id Q (.panic x) e H := h
theorem blockQ_here {id : Nat} (h : Q .normal e H) : blockQ id Q (.exit id) e H := by simp only [blockQ, if_true]; exact h
theorem blockQ_other {id i : Nat} (hi : i ≠ id) (h : Q (.exit i) e H) : blockQ id Q (.exit i) e H := by simp only [blockQ, if_neg hi]; exact h
theorem awp_block {id : Nat} {c : Code} (h : AWP P N c e H (blockQ id Q)) : AWP P N (.block id c) e H Q := by
  intro G ac w hR hE
  refine wp_block (wp_mono (h G ac w hR hE) ?_)
  rintro x a' w' ⟨ax, e', H', G', hx, hq, hR', hE', hs⟩
  cases x with
  | normal =>
    cases ax <;> simp only [XRel] at hx
    exact ⟨.normal, e', H', G', trivial, hq, hR', hE', hs⟩
  | exit i =>
    cases ax <;> simp only [XRel] at hx
    subst hx
    simp only [blockQ] at hq
    simp only [Exit.inBlock]
    split at hq
    · rename_i e1; rw [if_pos e1]; exact ⟨.normal, e', H', G', trivial, hq, hR', hE', hs⟩
    · rename_i e1; rw [if_neg e1]; exact ⟨.exit _, e', H', G', rfl, hq, hR', hE', hs⟩
  | goto i =>
    cases ax <;> simp only [XRel] at hx
    subst hx
    exact ⟨.goto _, e', H', G', rfl, hq, hR', hE', hs⟩
  | ret =>
    cases ax <;> simp only [XRel] at hx
    exact ⟨.ret, e', H', G', trivial, hq, hR', hE', hs⟩
  | panic c =>
    cases ax <;> simp only [XRel] at hx
    rename_i y
    exact ⟨.panic y, e', H', G', hx, hq, hR', hE', hs⟩
  | outgrown => cases ax <;> simp only [XRel] at hx

/-! ### Less is known -/
/-- The slots of a smaller list say no more. -/
def Env.le (e e' : Env) : Prop := ∀ s, e'.get s = .junk ∨ e'.get s = e.get s
theorem EnvRel.weaken {n : Nat} {G : Ghost} {e e' : Env} {a : Act} (h : EnvRel N n G e a) (k : e.le e') : EnvRel N n G e' a :=
  ⟨h.size, h.defers, fun s => by rcases k s with k | k <;> rw [k]; · simp only [V]
                                 · exact h.slot s⟩
theorem EnvRel.lower {n m : Nat} {G : Ghost} {e : Env} {a : Act} (h : EnvRel N n G e a) (k : ∀ s, (e.get s).under m) : EnvRel N m G e a :=
  ⟨h.size, h.defers, fun s => V.lower _ _ (k s) (h.slot s)⟩
theorem Ext.lower {n m k : Nat} {G G' : Ghost} (h : Ext n m G G') (hk : n ≤ k) : Ext n k G G' := ⟨hk, h.snap, h.gen, h.same, h.fixed, h.born⟩
theorem Step.lower {n m k : Nat} {G G' : Ghost} {w w' : World} (h : Step n m G w G' w') (hk : n ≤ k) : Step n k G w G' w' := ⟨h.ext.lower hk, h.os, h.tape, h.output, h.size⟩
/-- From here on with fewer slots and objects. -/
theorem awp_weaken {c : Code} {e' : Env} (he : e.le e') (h : AWP P N c e' H Q) : AWP P N c e H Q := fun G a w hR hE => h G a w hR (hE.weaken he)

/-- A loop: what holds at each round's head, and a number that goes down. -/
theorem awp_loop {c : Code} (I : Nat → Env → Heap → Prop) (m : Nat) (e1 : Env) (h0 : I m e1 H) (he : e.le e1)
    (round : ∀ m e1 H1, I m e1 H1 → AWP P N c e1 H1 fun x e2 H2 => match x with
      | .normal => ∃ m' e3 H3 L, m' < m ∧ I m' e3 H3 ∧ H2 = H3 ++ L ∧ H1.length ≤ H3.length ∧ e2.le e3 ∧ (∀ s, (e3.get s).under H3.length) ∧ (∀ o ∈ H3, o.under H3.length)
      | x => Q x e2 H2) : AWP P N (.loop c) e H Q := by
  intro G a w hR hE
  have key : ∀ (b : Frame) (k : List Item) (cs : List Frame) (n m : Nat) (e1 : Env) (H1 : Heap) (G1 : Ghost) (a1 : Act) (w1 : World), m = n → I m e1 H1 → Rel G1 H1 w1 → EnvRel N H1.length G1 e1 a1 → Step H.length H1.length G w G1 w1 →
      ∃ x a' w', Holds N G H.length w Q x a' w' ∧ Arrives P (lone (b.at a1 (.code c :: .inLoop c :: k)) cs w1) b k cs x a' w' := by
    intro b k cs n
    induction n using Nat.strongRecOn with
    | _ n ih =>
      intro m e1 H1 G1 a1 w1 hm hI hR1 hE1 hs1
      obtain ⟨x, a2, w2, hq, harr⟩ := round m e1 H1 hI G1 a1 w1 hR1 hE1 b (.inLoop c :: k) cs
      obtain ⟨ax, e2, H2, G2, hx, hq, hR2, hE2, hs2⟩ := hq
      cases x with
      | normal =>
        cases ax <;> simp only [XRel] at hx
        obtain ⟨m', e3, H3, L, hlt, hI', rfl, hle, hee, hu, huo⟩ := hq
        obtain ⟨x', a', w', hq', harr'⟩ := ih m' (by omega) m' e3 H3 G2 a2 w2 rfl hI' (hR2.drop huo) ((hE2.weaken hee).lower hu) (hs1.trans (hs2.lower hle))
        exact ⟨x', a', w', hq', .of_steps (Steps.trans harr (.one step_inLoop)) harr'⟩
      | exit i =>
        cases ax <;> simp only [XRel] at hx
        subst hx
        exact ⟨.exit _, a2, w2, ⟨.exit _, e2, H2, G2, rfl, hq, hR2, hE2, hs1.trans hs2⟩, .pass (x := .inLoop c) rfl (fun _ _ => .inl (by simp)) harr⟩
      | goto i =>
        cases ax <;> simp only [XRel] at hx
        subst hx
        exact ⟨.goto _, a2, w2, ⟨.goto _, e2, H2, G2, rfl, hq, hR2, hE2, hs1.trans hs2⟩, .pass (x := .inLoop c) rfl (fun _ _ => .inl (by simp)) harr⟩
      | ret =>
        cases ax <;> simp only [XRel] at hx
        exact ⟨.ret, a2, w2, ⟨.ret, e2, H2, G2, trivial, hq, hR2, hE2, hs1.trans hs2⟩, .pass (x := .inLoop c) rfl (fun _ _ => .inl (by simp)) harr⟩
      | panic ch =>
        cases ax <;> simp only [XRel] at hx
        rename_i y
        exact ⟨.panic ch, a2, w2, ⟨.panic y, e2, H2, G2, hx, hq, hR2, hE2, hs1.trans hs2⟩, .pass (x := .inLoop c) rfl (fun _ _ => .inl (by simp)) harr⟩
      | outgrown => cases ax <;> simp only [XRel] at hx
  intro b k cs
  obtain ⟨x, a', w', hq, harr⟩ := key b k cs m m e1 H G a w rfl h0 hR (hE.weaken he) (Step.refl _ _ _)
  exact ⟨x, a', w', hq, .of_steps (.one step_loop) harr⟩

theorem Env.mem_get {e : Env} : ∀ s, e.get s = .junk ∨ ∃ x ∈ e, x.1 = s ∧ x.2 = e.get s := by
  induction e with
  | nil => exact fun _ => .inl rfl
  | cons y e ih =>
    intro s
    simp only [Env.get]
    split
    · rename_i h; exact .inr ⟨y, List.mem_cons_self, h.symm, rfl⟩
    · rcases ih s with h | ⟨x, hx, h⟩
      · exact .inl h
      · exact .inr ⟨x, List.mem_cons_of_mem _ hx, h⟩
theorem Env.le_of {e e' : Env} (h : ∀ x ∈ e', x.2 = .junk ∨ e.get x.1 = x.2) : e.le e' := by
  intro s
  rcases Env.mem_get (e := e') s with k | ⟨x, hx, rfl, k⟩
  · exact .inl k
  · rw [← k]
    rcases h x hx with k' | k'
    · exact .inl k'
    · exact .inr k'.symm
theorem Env.under_of {e : Env} {n : Nat} (h : ∀ x ∈ e, x.2.under n) (s : Nat) : (e.get s).under n := by
  rcases Env.mem_get (e := e) s with k | ⟨x, hx, rfl, k⟩
  · rw [k]; simp only [AV.under]
  · rw [← k]; exact h x hx
/-- The same, told of lists that are written out. -/
theorem awp_loop' {c : Code} (I : Nat → Env → Heap → Prop) (m : Nat) (e1 : Env) (h0 : I m e1 H) (he : ∀ x ∈ e1, x.2 = .junk ∨ e.get x.1 = x.2)
    (round : ∀ m e1 H1, I m e1 H1 → AWP P N c e1 H1 fun x e2 H2 => match x with
      | .normal => ∃ m' e3 H3 L, I m' e3 H3 ∧ m' < m ∧ H2 = H3 ++ L ∧ H1.length ≤ H3.length ∧ (∀ x ∈ e3, x.2 = .junk ∨ e2.get x.1 = x.2) ∧ (∀ x ∈ e3, x.2.under H3.length) ∧ (∀ o ∈ H3, o.under H3.length)
      | x => Q x e2 H2) : AWP P N (.loop c) e H Q := by
  refine awp_loop I m e1 h0 (Env.le_of he) fun m e1 H1 hI => (round m e1 H1 hI).mono fun x e2 H2 h => ?_
  cases x with
  | normal =>
    obtain ⟨m', e3, H3, L, h1, h2, h3, h4, h5, h6, h7⟩ := h
    exact ⟨m', e3, H3, L, h2, h1, h3, h4, Env.le_of h5, Env.under_of h6, h7⟩
  | _ => exact h

/-! ### Calls -/
/-- Is a function one that is entered? -/
def _root_.Go.Program.enters (P : Program) (f : FuncId) : Bool :=
  match P.funcs[f]? with
  | some fn => fn.body.isSome && !(fn.name == "runtime.NumGoroutine")
  | none => false
inductive AEnd where
  | ret (v : AV) | panic (x : AV)
def ERel (n : Nat) (G : Ghost) : AEnd → Ending → Prop
  | .ret x, .returned v => V n G x v
  | .panic x, .panicked [c] => c.recovered = false ∧ c.goexit = false ∧ V n G x c.v
  | _, _ => False
/-- A call from objects 'H' ends so, and leaves 'H''. -/
def DCall (P : Program) (f : FuncId) (args : List AV) (H : Heap) (r : AEnd) (H' : Heap) : Prop :=
  P.enters f = true ∧ ∀ (G : Ghost) (w : World) (cargs : Array Value), Rel G H w → cargs.size = args.length → Vcells H.length G args cargs 0 →
    Calls P f cargs w fun en w' => ∃ G', ERel H'.length G' r en ∧ Rel G' H' w' ∧ Step H.length H'.length G w G' w'
/-- A function that answers, and leaves all as it is. -/
def PureFn (P : Program) (f : FuncId) (args : List AV) (r : AV) : Prop := ∀ H, DCall P f args H (.ret r) H

/-- What a function hands back. -/
def resVar (P : Program) (e : Env) (H : Heap) : ResultVar → Option AV
  | .tmp t => some (e.get t)
  | .cell a ty => match e.get a with
    | .ptr id off => match H[id]? with
      | some (.cells _ cs) => P.part ty cs off
      | _ => none
    | _ => none
def resVars (P : Program) (e : Env) (H : Heap) : List ResultVar → Option (List AV)
  | [] => some []
  | r :: rs => match resVar P e H r, resVars P e H rs with
    | some x, some xs => some (x :: xs)
    | _, _ => none
def tupOf : List AV → AV
  | [x] => x
  | xs => .tup xs
def resAV (P : Program) (rs : List ResultVar) (e : Env) (H : Heap) : Option AV := (resVars P e H rs).map tupOf
/-- How a result is read. -/
def rdVar (tmps : Array Value) : ResultVar → Sem Value
  | .tmp t => pure (tmps.getD t undef)
  | .cell a t => do loadVar t (← asAddr (tmps.getD a undef))
theorem run_rdVar {G : Ghost} {e : Env} {H : Heap} {a : Act} {w : World} (hR : Rel G H w) {N : Fr} (hE : EnvRel N H.length G e a) {r : ResultVar} {x : AV} (h : resVar P e H r = some x) : ∃ v, (rdVar a.tmps r).run P w = .ok v w ∧ V H.length G x v := by
  cases r with
  | tmp t =>
    simp only [resVar, Option.some.injEq] at h
    subst h
    exact ⟨_, rfl, hE.slot _⟩
  | cell s ty =>
    simp only [resVar] at h
    split at h
    · rename_i id off hp
      split at h
      · rename_i q cs hH
        have hv := hE.slot s
        rw [hp] at hv
        simp only [V] at hv
        obtain ⟨hf, c, hw, hs, hc⟩ := hR.obj id _ hH
        obtain ⟨v, hv', k⟩ := run_loadVar (o := 0) hw hc h
        rw [Nat.zero_add] at hv'
        refine ⟨v, ?_, k⟩
        simp only [rdVar, hv.2.2]
        exact hv'
      · cases h
    · cases h
theorem results_eq (fn : Func) (tmps : Array Value) : results fn tmps = (fn.results.mapM (rdVar tmps)).bind fun vs => pure (if h : vs.size = 1 then vs[0] else .tuple vs) := by
  unfold results
  congr 1
theorem Vcells_list {n : Nat} {G : Ghost} {x : AV} {xs : List AV} {v : Value} {vs : List Value} (h : V n G x v) (k : Vcells n G xs vs.toArray 0) : Vcells n G (x :: xs) (v :: vs).toArray 0 := by
  simp only [Vcells]
  refine ⟨⟨v, rfl, h⟩, Vcells_of fun i y hy => ?_⟩
  obtain ⟨u, hu, k'⟩ := Vcells_get k hy
  refine ⟨u, ?_, k'⟩
  rw [Nat.zero_add] at hu
  rw [show 0 + 1 + i = i + 1 by omega]
  simpa using hu
theorem run_resVars {G : Ghost} {e : Env} {H : Heap} {a : Act} {w : World} {N : Fr} (hR : Rel G H w) (hE : EnvRel N H.length G e a) : ∀ (rs : List ResultVar) (xs : List AV), resVars P e H rs = some xs →
    ∃ vs : List Value, (rs.mapM (rdVar a.tmps)).run P w = .ok vs w ∧ vs.length = xs.length ∧ Vcells H.length G xs vs.toArray 0 := by
  intro rs
  induction rs with
  | nil => intro xs h; cases h; exact ⟨[], rfl, rfl, by simp only [Vcells]⟩
  | cons r rs ih =>
    intro xs h
    simp only [resVars] at h
    split at h
    · rename_i x xs' h1 h2
      cases h
      obtain ⟨v, hv, k⟩ := run_rdVar hR hE h1
      obtain ⟨vs, hvs, hl, k2⟩ := ih _ h2
      refine ⟨v :: vs, ?_, by simp [hl], Vcells_list k k2⟩
      rw [List.mapM_cons]
      show ((rdVar a.tmps r).bind _).run P w = _
      rw [run_bind, hv]
      show ((List.mapM (rdVar a.tmps) rs).bind _).run P w = _
      rw [run_bind, hvs]
      rfl
    · cases h
theorem run_results {fn : Func} {G : Ghost} {e : Env} {H : Heap} {a : Act} {w : World} {N : Fr} (hR : Rel G H w) (hE : EnvRel N H.length G e a) {x : AV} (h : resAV P fn.results.toList e H = some x) : ∃ v, (results fn a.tmps).run P w = .ok v w ∧ V H.length G x v := by
  unfold resAV at h
  rw [Option.map_eq_some_iff] at h
  obtain ⟨xs, hx, rfl⟩ := h
  obtain ⟨vs, hvs, hl, hk⟩ := run_resVars (P := P) hR hE _ _ hx
  refine ⟨if h : vs.toArray.size = 1 then vs.toArray[0] else .tuple vs.toArray, ?_, ?_⟩
  · rw [results_eq, run_bind]
    have : (fn.results.mapM (rdVar a.tmps)).run P w = .ok vs.toArray w := by
      have e1 : fn.results = fn.results.toList.toArray := by simp
      rw [e1, List.mapM_toArray]
      show (Functor.map List.toArray (List.mapM (rdVar a.tmps) fn.results.toList)).run P w = _
      rw [← bind_pure_comp]
      show ((List.mapM (rdVar a.tmps) fn.results.toList).bind _).run P w = _
      rw [run_bind, hvs]
      rfl
    rw [this]
    rfl
  · split
    · rename_i h1
      obtain ⟨v, rfl⟩ : ∃ v, vs = [v] := List.length_eq_one_iff.1 (by simpa using h1)
      obtain ⟨x, rfl⟩ : ∃ x, xs = [x] := List.length_eq_one_iff.1 (by simpa using hl.symm)
      simp only [Vcells, and_true] at hk
      obtain ⟨u, hu, k⟩ := hk
      cases hu
      exact k
    · rename_i h1
      have : tupOf xs = .tup xs := by
        cases xs with
        | nil => rfl
        | cons x xs => cases xs with
          | nil => exact absurd (by simpa using hl) h1
          | cons y ys => rfl
      rw [this]
      simp only [V]
      exact ⟨vs.toArray, rfl, by simpa using hl, hk⟩

/-- The slots when a call begins. -/
def argEnv : Nat → List AV → Env
  | _, [] => []
  | k, x :: xs => (k, x) :: argEnv (k + 1) xs
theorem argEnv_get : ∀ (l : List AV) (k s : Nat), (argEnv k l).get s = if k ≤ s then (l[s - k]?).getD .junk else .junk := by
  intro l
  induction l with
  | nil => intro k s; simp [argEnv, Env.get]
  | cons x xs ih =>
    intro k s
    simp only [argEnv, Env.get]
    by_cases h : s = k
    · subst h; simp
    · rw [if_neg h, ih]
      by_cases h2 : k + 1 ≤ s
      · rw [if_pos h2, if_pos (by omega), show s - k = (s - (k + 1)) + 1 by omega, List.getElem?_cons_succ]
      · rw [if_neg h2, if_neg (by omega)]
theorem EnvRel.start {fn : Func} {n : Nat} {G : Ghost} {args : List AV} {cargs : Array Value} (hs : cargs.size = args.length) (h : Vcells n G args cargs 0) (hn : args.length ≤ fn.ntmps) :
    EnvRel fn.ntmps n G (argEnv 0 args) { tmps := cargs ++ Array.replicate (fn.ntmps - cargs.size) undef, defers := [] } := by
  refine ⟨by simp; omega, rfl, fun s => ?_⟩
  rw [argEnv_get, if_pos (Nat.zero_le _), Nat.sub_zero]
  cases hx : args[s]? with
  | none => simp only [Option.getD_none, V]
  | some x =>
    obtain ⟨v, hv, k⟩ := Vcells_get h hx
    rw [Nat.zero_add] at hv
    have hlt : s < cargs.size := by rw [Array.getElem?_eq_some_iff] at hv; exact hv.1
    rw [Array.getD_eq_getD_getElem?, Array.getElem?_append_left hlt, hv]
    exact k
/-- How a function's body ends, told of the objects that were there. -/
def endQ (P : Program) (fn : Func) (H1 : Heap) (r : AEnd) : Post := fun x e H => match x, r with
  | .normal, .ret v | .ret, .ret v => resAV P fn.results.toList e H = some v ∧ v.under H1.length ∧ (∃ L, H = H1 ++ L) ∧ ∀ o ∈ H1, o.under H1.length
  | .panic y, .panic z => y = z ∧ z.under H1.length ∧ (∃ L, H = H1 ++ L) ∧ ∀ o ∈ H1, o.under H1.length
  | _, _ => False
theorem dcall_of_body {f : FuncId} {fn : Func} {c : Code} {args : List AV} {H1 : Heap} {r : AEnd} (hf : P.funcs[f]? = some fn) (hb : fn.body = some c) (hn : args.length ≤ fn.ntmps) (hen : P.enters f = true) (hle : H.length ≤ H1.length)
    (h : (∀ o ∈ H, o.under H.length) → AWP P fn.ntmps c (argEnv 0 args) H (endQ P fn H1 r)) : DCall P f args H r H1 := by
  refine ⟨hen, ?_⟩
  intro G w cargs hR hs hc
  refine calls_of_wp hf hb (wp_mono (h hR.isUnder G _ w hR (.start hs hc hn)) ?_)
  rintro x a' w' ⟨ax, e', H', G', hx, hq, hR', hE', hst⟩
  have fin : ∀ v, (ax = .normal ∨ ax = .ret) → r = .ret v → endQ P fn H1 r ax e' H' → ∃ u, (results fn a'.tmps).run P w' = .ok u w' ∧ ∃ G', ERel H1.length G' r (.returned u) ∧ Rel G' H1 w' ∧ Step H.length H1.length G w G' w' := by
    intro v hax hr hq
    subst hr
    have hq' : resAV P fn.results.toList e' H' = some v ∧ v.under H1.length ∧ (∃ L, H' = H1 ++ L) ∧ ∀ o ∈ H1, o.under H1.length := by
      rcases hax with rfl | rfl <;> exact hq
    obtain ⟨h1, h2, ⟨L, rfl⟩, h4⟩ := hq'
    obtain ⟨u, hu, hv⟩ := run_results (P := P) hR' hE' h1
    exact ⟨u, hu, G', V.lower _ _ h2 hv, hR'.drop h4, hst.lower hle⟩
  cases x with
  | normal =>
    cases ax <;> simp only [XRel] at hx
    cases r with
    | ret v =>
      obtain ⟨u, hu, hk⟩ := fin v (.inl rfl) rfl hq
      exact ⟨hE'.defers, u, hu, hk⟩
    | panic y => exact hq.elim
  | ret =>
    cases ax <;> simp only [XRel] at hx
    cases r with
    | ret v =>
      obtain ⟨u, hu, hk⟩ := fin v (.inr rfl) rfl hq
      exact ⟨hE'.defers, u, hu, hk⟩
    | panic y => exact hq.elim
  | panic ch =>
    cases ax <;> simp only [XRel] at hx
    cases r with
    | ret v => exact hq.elim
    | panic y =>
      obtain ⟨rfl, h2, ⟨L, rfl⟩, h4⟩ := hq
      match ch, hx with
      | [c], hx => exact ⟨hE'.defers, G', ⟨hx.1, hx.2.1, V.lower _ _ h2 hx.2.2⟩, hR'.drop h4, hst.lower hle⟩
  | exit i => cases ax <;> cases r <;> first | exact hx.elim | exact hq.elim
  | goto i => cases ax <;> cases r <;> first | exact hx.elim | exact hq.elim
  | outgrown => cases ax <;> exact hx.elim
/-- The same of a function that leaves all as it is. -/
def pureQ (P : Program) (fn : Func) (H1 : Heap) (r : AV) : Post := fun x e H => match x with
  | .normal | .ret => resAV P fn.results.toList e H = some r ∧ r.under H1.length ∧ ∃ L, H = H1 ++ L
  | _ => False
theorem pureQ_end {fn : Func} {H1 : Heap} {r : AV} (hH : ∀ o ∈ H1, o.under H1.length) : ∀ x e H, pureQ P fn H1 r x e H → endQ P fn H1 (.ret r) x e H := by
  intro x e H h
  cases x <;> simp only [pureQ] at h <;> exact ⟨h.1, h.2.1, h.2.2, hH⟩
/-- A function that leaves all as it is. -/
theorem pure_of_body {f : FuncId} {fn : Func} {c : Code} {args : List AV} {r : AV} (hf : P.funcs[f]? = some fn) (hb : fn.body = some c) (hn : args.length ≤ fn.ntmps) (hen : P.enters f = true)
    (h : ∀ H : Heap, (∀ o ∈ H, o.under H.length) → AWP P fn.ntmps c (argEnv 0 args) H (endQ P fn H (.ret r))) : PureFn P f args r := fun H => dcall_of_body hf hb hn hen (Nat.le_refl _) (h H)

end Go.Ab
end
section
set_option linter.unusedSimpArgs false
set_option linter.unusedVariables false
namespace Go.Ab
variable {P : Program} {o : Oper} {e : Env} {H : Heap}

/-! ### s[l:h] -/
/-- A bound as a number. -/
def boundOf (e : Env) : Option Operand → Int → Option Int
  | none, d => some d
  | some x, _ => match e.ev x with | .int _ i => some i | _ => none
theorem run_bounds {b : Bool} {N : Fr} {n : Nat} {G : Ghost} {a : Act} {w : World} (hE : EnvRel N n G e a) {len cap : Nat} {lo hi : Option Operand} {l h : Int} (hl : boundOf e lo 0 = some l) (hh : boundOf e hi len = some h) (h0 : 0 ≤ l) (h1 : l ≤ h) (h2 : h ≤ cap) :
    (Instr.sliceBounds b len cap (lo.map a.eval) (hi.map a.eval) none).run P w = .ok (l.toNat, h.toNat, cap) w := by
  have bound : ∀ (x : Operand) (i : Int) (y : Nat) (c : BoundsCode), boundOf e (some x) 0 = some i → 0 ≤ i → i ≤ y → (Instr.sliceBound (a.eval x) y c).run P w = .ok i.toNat w := by
    intro x i y c hx k0 k1
    simp only [boundOf] at hx
    split at hx
    · rename_i q j hj
      cases hx
      have hv := hE.ev x
      rw [hj] at hv
      simp only [V] at hv
      simp only [Instr.sliceBound, bindRun, pureRun, hv, asIntOf, iteRun]
      rw [if_pos ⟨k0, k1⟩]
    · cases hx
  have hb : ∀ (x : Operand) (d : Int) (i : Int), boundOf e (some x) d = some i → boundOf e (some x) 0 = some i := fun x d i k => k
  cases hi with
  | none =>
    simp only [boundOf, Option.some.injEq] at hh
    cases lo with
    | none =>
      simp only [boundOf, Option.some.injEq] at hl
      subst hl hh
      simp only [Instr.sliceBounds, Option.map_none, bindRun, pureRun]
      rfl
    | some x =>
      subst hh
      simp only [Instr.sliceBounds, Option.map_none, Option.map_some, bindRun, pureRun, Option.isSome_none, Bool.false_eq_true, if_false, bound x l len _ (hb _ _ _ hl) h0 h1]
      rfl
  | some y =>
    have hy := bound y h cap (if b then .sliceAcap else .sliceAlen) (hb _ _ _ hh) (by omega) h2
    cases lo with
    | none =>
      simp only [boundOf, Option.some.injEq] at hl
      subst hl
      simp only [Instr.sliceBounds, Option.map_none, Option.map_some, bindRun, pureRun, hy]
      rfl
    | some x =>
      simp only [Instr.sliceBounds, Option.map_none, Option.map_some, bindRun, pureRun, hy, Option.isSome_none, Bool.false_eq_true, if_false, bound x l h.toNat .sliceB (hb _ _ _ hl) h0 (by omega)]
theorem exec_slice_str {t : TypeId} {x : Operand} {lo hi : Option Operand} {s : List UInt8} {l h : Int} (ho : o.op = .slice t x lo hi none) (hx : e.ev x = .str s) (ht : (P.ti t).d = .string) (hl : boundOf e lo 0 = some l) (hh : boundOf e hi s.length = some h) (h0 : 0 ≤ l) (h1 : l ≤ h) (h2 : h ≤ s.length) :
    Exec P o e H (.str ((s.drop l.toNat).take (h.toNat - l.toNat))) H :=
  .of_run fun N G a w hR hE => by
    have hv := hE.ev x
    rw [hx] at hv
    simp only [V] at hv
    refine ⟨.string ((ba s).extract l.toNat h.toNat), ?_, by simp only [V, ba_extract]⟩
    simp only [execOp, ho]
    refine run_value P _ w w _ ?_
    simp only [Instr.sliceAt, bindRun, run_underlying (under_string ht), Instr.slice, hv, ba_size, Option.map_none, Option.isSome_none, Bool.false_eq_true, if_false, iteRun, pureRun, run_bounds hE hl hh h0 h1 h2]
theorem exec_slice_lst {t el : TypeId} {x : Operand} {lo hi : Option Operand} {xs : List AV} {l h : Int} (ho : o.op = .slice t x lo hi none) (hx : e.ev x = .lst xs) (ht : (P.ti t).d = .slice el) (hel : (P.ti el).d ≠ .bad) (hn : ∀ z ∈ xs, z.nc = (P.ti el).size) (hl : boundOf e lo 0 = some l) (hh : boundOf e hi xs.length = some h) (h0 : 0 ≤ l) (h1 : l ≤ h) (h2 : h ≤ xs.length) :
    Exec P o e H (.lst ((xs.drop l.toNat).take (h.toNat - l.toNat))) H :=
  .of_run fun N G a w hR hE => by
    have hv := hE.ev x
    rw [hx] at hv
    simp only [V] at hv
    rcases hv with ⟨rfl, hv⟩ | ⟨b, q, cap, c, ty, fr, size, hv, hcap, hs, hr⟩
    · obtain rfl : l = 0 := by simp at h2; omega
      obtain rfl : h = 0 := by simp at h2; omega
      refine ⟨.slice none 0 0, ?_, by simp only [V]; simp⟩
      simp only [execOp, ho]
      refine run_value P _ w w _ ?_
      simp only [Instr.sliceAt, bindRun, run_underlying (under_slice ht), Instr.slice, hv, Option.map_none, pureRun, run_bounds (b := true) (len := 0) (cap := 0) hE hl hh (by omega) (by omega) (by omega), run_sizeOf hel]
      simp
    have hlen : ((xs.drop l.toNat).take (h.toNat - l.toNat)).length = h.toNat - l.toNat := by rw [List.length_take, List.length_drop]; omega
    refine ⟨.slice (if cap = l.toNat then some ⟨b, q, none⟩ else some ⟨b, q + l.toNat * (P.ti el).size, none⟩) (h.toNat - l.toNat) (cap - l.toNat), ?_, ?_⟩
    · simp only [execOp, ho]
      refine run_value P _ w w _ ?_
      simp only [Instr.sliceAt, bindRun, run_underlying (under_slice ht), Instr.slice, hv, Option.map_none, pureRun, run_bounds (b := true) hE hl hh h0 h1 (by omega : h ≤ (cap : Int)), run_sizeOf hel, Option.map_some, add_plain]
    · simp only [V, hlen]
      by_cases he : cap = l.toNat
      · rw [if_pos he]
        refine .inr ⟨b, q, _, c, ty, fr, size, rfl, by omega, hs, ?_⟩
        have : (xs.drop l.toNat).take (h.toNat - l.toNat) = [] := List.eq_nil_of_length_eq_zero (by omega)
        rw [this]; simp only [Vrow]
      · rw [if_neg he]
        refine .inr ⟨b, q + l.toNat * (P.ti el).size, _, c, ty, fr, size, rfl, by omega, hs, Vrow_of fun i z hz => ?_⟩
        rw [List.getElem?_take] at hz
        split at hz
        · rw [List.getElem?_drop] at hz
          obtain ⟨k1, k2⟩ := Vrow_get hr hz
          refine ⟨k1, ?_⟩
          have : size = (P.ti el).size := by rw [← k1]; exact hn z (List.mem_of_getElem? hz)
          rw [← this, Nat.add_assoc, ← Nat.add_mul]
          exact k2
        · cases hz
theorem exec_slice_nil {t el : TypeId} {x : Operand} {lo hi : Option Operand} {l h : Int} (ho : o.op = .slice t x lo hi none) (hx : e.ev x = .nilS) (ht : (P.ti t).d = .slice el) (hel : (P.ti el).d ≠ .bad) (hl : boundOf e lo 0 = some l) (hh : boundOf e hi 0 = some h) (h0 : l = 0) (h1 : h = 0) :
    Exec P o e H .nilS H :=
  .of_run fun N G a w hR hE => by
    have hv := hE.ev x
    rw [hx] at hv
    simp only [V] at hv
    subst h0 h1
    refine ⟨.slice none 0 0, ?_, by simp only [V]⟩
    simp only [execOp, ho]
    refine run_value P _ w w _ ?_
    simp only [Instr.sliceAt, bindRun, run_underlying (under_slice ht), Instr.slice, hv, Option.map_none, pureRun, run_bounds (b := true) (len := 0) (cap := 0) hE hl hh (by omega) (by omega) (by omega), run_sizeOf hel]
    simp
theorem exec_slice_view {t el : TypeId} {x : Operand} {lo hi : Option Operand} {id g sz off len : Nat} {xs : List AV} {l h : Int} (ho : o.op = .slice t x lo hi none) (hx : e.ev x = .view id g off len) {ty : TypeId} (hH : H[id]? = some (.row ty g sz xs)) (ht : (P.ti t).d = .slice el) (hel : (P.ti el).d ≠ .bad) (hsz : (P.ti el).size = sz)
    (hl : boundOf e lo 0 = some l) (hh : boundOf e hi len = some h) (h0 : 0 ≤ l) (h1 : l ≤ h) (h2 : h ≤ len) (hpos : l < len) :
    Exec P o e H (.view id g (off + l.toNat) (h.toNat - l.toNat)) H :=
  .of_run fun N G a w hR hE => by
    have hv := hE.ev x
    rw [hx] at hv
    simp only [V] at hv
    obtain ⟨hid, hg, ad, cap, hv, hcap, hcur⟩ := hv
    obtain ⟨hg', hfx, hsz', hrow⟩ := hR.obj id _ hH
    rcases hcur hg'.symm with ⟨hnil, rfl, rfl, rfl⟩ | ⟨hnil, rfl, hroom⟩
    · omega
    refine ⟨.slice (some ⟨(G.loc id).block, (G.loc id).base + (off + l.toNat) * sz, none⟩) (h.toNat - l.toNat) (cap - l.toNat), ?_, ?_⟩
    · simp only [execOp, ho]
      refine run_value P _ w w _ ?_
      simp only [Instr.sliceAt, bindRun, run_underlying (under_slice ht), Instr.slice, hv, Option.map_none, pureRun, run_bounds (b := true) hE hl hh h0 h1 (by omega : h ≤ (cap : Int)), run_sizeOf hel, Option.map_some, add_plain, hsz, hsz']
      rw [if_neg (by omega), Nat.add_mul, ← Nat.add_assoc]
    · simp only [V]
      refine ⟨hid, hg, _, _, rfl, by omega, fun _ => .inr ⟨hnil, by rw [hsz'], ?_⟩⟩
      rw [show off + l.toNat + (cap - l.toNat) = off + cap by omega]
      exact hroom

/-! ### Conversions, interface values, nil checks -/
theorem exec_convInt {s d : TypeId} {x : Operand} {k q : IntKind} {i : Int} (ho : o.op = .convert s d x) (hx : e.ev x = .int q i) (hs : (P.ti s).d ≠ .bad) (hd : (P.ti d).d = .int k) : Exec P o e H (.int k (k.wrap i)) H :=
  .of_run fun N G a w hR hE => by
    have hv := hE.ev x
    rw [hx] at hv
    simp only [V] at hv
    obtain ⟨u, hu, _⟩ := ti_under hs
    refine ⟨.int k (k.wrap i), ?_, by simp only [V]⟩
    simp only [execOp, ho]
    refine run_value P _ w w _ ?_
    simp only [convert, bindRun, run_underlying hu, run_underlying (under_int hd), hv, Conv.intToInt, pureRun]
theorem exec_convStr {s d : TypeId} {x : Operand} {b : List UInt8} (ho : o.op = .convert s d x) (hx : e.ev x = .str b) (hs : (P.ti s).d = .string) (hd : (P.ti d).d = .string) : Exec P o e H (.str b) H :=
  .of_run fun N G a w hR hE => by
    have hv := hE.ev x
    rw [hx] at hv
    simp only [V] at hv
    refine ⟨.string (ba b), ?_, by simp only [V]⟩
    simp only [execOp, ho]
    refine run_value P _ w w _ ?_
    simp only [convert, bindRun, run_underlying (under_string hs), run_underlying (under_string hd), hv, pureRun]
theorem exec_makeIface {t : TypeId} {x : Operand} {y : AV} (ho : o.op = .makeInterface t x) (hx : e.ev x = y) (hs : (P.ti t).d ≠ .bad) (hi : ∀ b, (P.ti t).d ≠ .iface b) : Exec P o e H (.iface t y) H :=
  .of_run fun N G a w hR hE => by
    have hv := hE.ev x
    rw [hx] at hv
    obtain ⟨u, hu, hd⟩ := ti_under hs
    refine ⟨.iface t (a.eval x), ?_, by simp only [V]; exact ⟨_, rfl, hv⟩⟩
    simp only [execOp, ho]
    refine run_value P _ w w _ ?_
    simp only [Instr.makeInterface, bindRun, run_underlying hu]
    cases u <;> first | rfl | (exact absurd hd (hi _))
theorem exec_nilCheck {x : Operand} {y : AV} (ho : o.op = .nilCheck x) (hx : e.ev x = y) (hy : y.isPtr = true ∨ (∃ f c, y = .func (.func f) [] c) ∨ ∃ id, y = .map id) (hcur : ∀ id g i k, y = .vptr id g i k → ∃ ty sz xs, H[id]? = some (.row ty g sz xs)) : Exec P o e H y H :=
  .of_run fun N G a w hR hE => by
    have hv := hE.ev x
    refine ⟨a.eval x, ?_, by rw [← hx]; exact hv⟩
    rw [hx] at hv
    simp only [execOp, ho]
    rcases hy with hy | ⟨f, c, rfl⟩ | ⟨id, rfl⟩
    · cases y <;> simp only [AV.isPtr, Bool.false_eq_true] at hy
      · simp only [V] at hv; rw [hv.2.2]; rfl
      · simp only [V] at hv; obtain ⟨b, q, c, ty, fr, size, hv, _⟩ := hv; rw [hv]; rfl
      · simp only [V] at hv
        obtain ⟨_, _, p, hv, hp⟩ := hv
        obtain ⟨ty, sz, xs, hH⟩ := hcur _ _ _ _ rfl
        rw [hp (hR.obj _ _ hH).1.symm] at hv
        rw [hv]; rfl
    · simp only [V] at hv
      obtain ⟨f', c', hv, _⟩ := hv
      rw [hv]; rfl
    · simp only [V] at hv; rw [hv.2.2]; rfl


/-! ### A struct's literal -/
def buildCells (P : Program) (fs : List (TypeId × Nat × Bool)) : List (Nat × AV) → List AV → Option (List AV)
  | [], cs => some cs
  | (i, y) :: r, cs => match fs[i]? with
    | some (ft, off, _) => if y.nc = (P.ti ft).size ∧ off + y.nc ≤ cs.length ∧ y.solid = true then buildCells P fs r (putCells cs off y.cells) else none
    | none => none
theorem run_mapM {α β : Type} {w : World} (f : α → Sem β) (g : α → β) : ∀ l : List α, (∀ x ∈ l, (f x).run P w = .ok (g x) w) → (l.mapM f).run P w = .ok (l.map g) w := by
  intro l
  induction l with
  | nil => intro _; rfl
  | cons x l ih =>
    intro h
    rw [List.mapM_cons, bindRun, h x (List.mem_cons_self)]
    dsimp only
    rw [bindRun, ih (fun y hy => h y (List.mem_cons_of_mem _ hy))]
    rfl
theorem run_mapM_array {α β : Type} {w : World} (f : α → Sem β) (g : α → β) (a : Array α) (h : ∀ x ∈ a.toList, (f x).run P w = .ok (g x) w) : (a.mapM f).run P w = .ok (a.map g) w := by
  have e : a = a.toList.toArray := by simp
  rw [e, List.mapM_toArray]
  show ((a.toList.mapM f) >>= _).run P w = _
  rw [bindRun, run_mapM f g _ h]
  show Result.ok _ _ = _
  congr 1
  apply Array.ext'
  simp
theorem foldl_wr (off : Nat) (vs : Array Value) (c : Array Value) : vs.zipIdx.foldl (fun cs (c, j) => cs.setIfInBounds (off + j) c) c = wr c off vs.toList := by
  have gen : ∀ (l : List Value) (n : Nat) (c : Array Value), (l.zipIdx n).foldl (fun cs (x : Value × Nat) => cs.setIfInBounds (off + x.2) x.1) c = wr c (off + n) l := by
    intro l
    induction l with
    | nil => intro n c; rfl
    | cons x l ih => intro n c; simp only [List.zipIdx_cons, List.foldl_cons, wr]; rw [ih]; rfl
  have := gen vs.toList 0 c
  rw [Nat.add_zero] at this
  rw [← this, ← Array.foldl_toList]
  simp
theorem fill_build {n : Nat} {N : Fr} {G : Ghost} {a : Act} (hE : EnvRel N n G e a) {gs : Array Field} {fs : List (TypeId × Nat × Bool)} (hfs : fs = gs.toList.map fun f => (f.type, f.offset, f.name == "_")) : ∀ (parts : List (Nat × Operand)) (cs cs' : List AV) (c : Array Value), Vcells n G cs c 0 → c.size = cs.length → buildCells P fs (parts.map fun x => (x.1, e.ev x.2)) cs = some cs' →
    ∃ c', Instr.fill ((gs.map fun f => (f.offset, (P.ti f.type).size))[·]?) c (parts.map fun x => (x.1, a.eval x.2)) = some c' ∧ c'.size = cs'.length ∧ Vcells n G cs' c' 0 := by
  intro parts
  induction parts with
  | nil =>
    intro cs cs' c hc hs h
    simp only [List.map_nil, buildCells, Option.some.injEq] at h
    subst h
    exact ⟨c, rfl, hs, hc⟩
  | cons x parts ih =>
    intro cs cs' c hc hs h
    obtain ⟨i, x⟩ := x
    simp only [List.map_cons, buildCells] at h
    cases hf : fs[i]? with
    | none => rw [hf] at h; cases h
    | some q =>
      obtain ⟨ft, off, u⟩ := q
      rw [hf] at h
      dsimp only at h
      split at h
      · rename_i hok
        obtain ⟨k1, k2, k3⟩ := hok
        obtain ⟨v1, v2⟩ := V_cells (hE.ev x) (AV.solid_or k3)
        have hlen : (a.eval x).cells.toList.length = (e.ev x).cells.length := by rw [Array.length_toList, v1, AV.nc_eq]
        rw [AV.nc_eq] at k2
        have hput := Vcells_put (off := off) (vs := (a.eval x).cells.toList) hc (by simpa using v2) hlen k2 (by omega)
        rw [Nat.zero_add] at hput
        obtain ⟨c', j1, j2, j3⟩ := ih _ cs' _ hput (by rw [wr_size, putCells_length k2, hs]) h
        refine ⟨c', ?_, j2, j3⟩
        rw [hfs, List.getElem?_map, Option.map_eq_some_iff] at hf
        obtain ⟨fd, hfd, hfe⟩ := hf
        simp only [Prod.mk.injEq] at hfe
        obtain ⟨rfl, rfl, _⟩ := hfe
        have hfd' : gs[i]? = some fd := by simpa using hfd
        have hg : (gs.map fun f => (f.offset, (P.ti f.type).size))[i]? = some (fd.offset, (P.ti fd.type).size) := by rw [Array.getElem?_map, hfd']; rfl
        simp only [List.map_cons, Instr.fill, hg]
        rw [if_neg, foldl_wr]
        · exact j1
        · rw [v1]
          have := AV.nc_eq (e.ev x)
          simp only [ne_eq, k1, not_true_eq_false, decide_false, Bool.false_or, decide_eq_true_eq, Nat.not_lt]
          omega
      · cases h
theorem exec_build {t : TypeId} {parts : Array (Nat × Operand)} {fs : List (TypeId × Nat × Bool)} {cs zs : List AV} (ho : o.op = .build t parts) (ht : (P.ti t).d = .struct fs) (hz : (P.ti t).zero = .agg zs) (hfs : ∀ f ∈ fs, (P.ti f.1).d ≠ .bad)
    (hb : buildCells P fs (parts.toList.map fun x => (x.1, e.ev x.2)) zs = some cs) : Exec P o e H (.agg cs) H :=
  .of_run fun N G a w hR hE => by
    obtain ⟨gs, hgs, hfe⟩ := under_struct ht
    obtain ⟨z, hz1, hz2⟩ := run_zero (P := P) (t := t) (by rw [hz]; simp) w
    have hV : V H.length G (.agg zs) z := by rw [← hz, hz2]; exact V_ofVal _ _ _ _
    obtain ⟨hzs, hzc⟩ := V_cells hV (.inr ⟨zs, rfl⟩)
    obtain ⟨c', k1, k2, k3⟩ := fill_build (P := P) hE hfe parts.toList zs cs z.cells hzc hzs hb
    refine ⟨.agg c', ?_, by simp only [V]; exact ⟨c', rfl, k2, k3⟩⟩
    simp only [execOp, ho]
    refine run_value P _ w w _ ?_
    have hpl : ((gs.mapM fun f => do pure (f.offset, ← sizeOf f.type)) : Sem (Array (Nat × Nat))).run P w = .ok (gs.map fun f => (f.offset, (P.ti f.type).size)) w := by
      refine run_mapM_array _ _ gs fun f hf => ?_
      rw [bindRun, run_sizeOf (hfs (f.type, f.offset, f.name == "_") (by rw [hfe]; exact List.mem_map_of_mem hf))]
      rfl
    have hk : (parts.map fun (i, x) => (i, a.eval x)).toList = parts.toList.map fun x => (x.1, a.eval x.2) := by simp
    simp only [Instr.build, bindRun, hz1, run_underlying hgs, hpl, hk, k1, pureRun]

end Go.Ab
end
section
set_option linter.unusedSimpArgs false
set_option linter.unusedVariables false
namespace Go.Ab
variable {P : Program}

/-! ### What an operation gives, as a function -/
structure Out where
  ok : Prop
  v : AV
  H : Heap
def Out.bad (H : Heap) : Out := ⟨False, .junk, H⟩
def loadOf (P : Program) (H : Heap) (t : TypeId) : AV → Option AV
  | .ptr id off => match H[id]? with
    | some (.cells _ cs) => P.part t cs off
    | _ => none
  | .eptr xs i off => match xs[i]? with
    | some z => P.part t z.cells off
    | none => none
  | .vptr id g i off => match H[id]? with
    | some (.row _ g' _ xs) => if g = g' then (match xs[i]? with | some z => P.part t z.cells off | none => none) else none
    | _ => none
  | _ => none
theorem exec_load {o : Oper} {e : Env} {H : Heap} {t : TypeId} {x : Operand} {y : AV} (ho : o.op = .load t x) (h : loadOf P H t (e.ev x) = some y) : Exec P o e H y H := by
  cases hx : e.ev x <;> rw [hx] at h <;> simp only [loadOf, reduceCtorEq] at h
  · split at h
    · rename_i q cs hH; exact exec_load_ptr ho hx hH h
    · cases h
  · split at h
    · rename_i z hz; exact exec_load_eptr ho hx hz h
    · cases h
  · split at h
    · rename_i ty g' sz xs hH
      split at h
      · rename_i hg
        subst hg
        split at h
        · rename_i z hz; exact exec_load_vptr ho hx hH hz h
        · cases h
      · cases h
    · cases h
/-- Does a pointer into a row lead into what stands now? -/
def curPtr (H : Heap) : AV → Prop
  | .vptr id g _ _ => ∃ ty sz xs, H[id]? = some (.row ty g sz xs)
  | _ => True
theorem curPtr_of {H : Heap} {y : AV} (h : curPtr H y) : ∀ id g i k, y = .vptr id g i k → ∃ ty sz xs, H[id]? = some (.row ty g sz xs) := by
  rintro id g i k rfl; exact h
def fieldOf (P : Program) (s : TypeId) (f : Nat) : Option (TypeId × Nat × Bool) := match (P.ti s).d with
  | .struct fs => fs[f]?
  | _ => none
def elemOfSlice (P : Program) (t : TypeId) : TypeId := match (P.ti t).d with | .slice el => el | _ => 0
def isNumOp : BinOp → Bool
  | .shl | .shr => false
  | _ => true
def binAV (op : BinOp) (d : Desc) : AV → AV → AV
  | .int k a, .int q b => if isNumOp op then (if k = q then intOp op k a b else .junk) else shiftOp op k a b
  | .str a, .str b => strOp op a b
  | .bool a, .bool b => match op with | .eql => .bool (a == b) | .neq => .bool (a != b) | _ => .junk
  | .nilS, .nilS => match op with | .eql => .bool true | .neq => .bool false | _ => .junk
  | .lst (_ :: _), .nilS => match op with | .eql => .bool false | .neq => .bool true | _ => .junk
  | _, _ => .junk
def binOk (op : BinOp) (d : Desc) : AV → AV → Prop
  | .int k a, .int q b => if isNumOp op then k = q ∧ ((op = .quo ∨ op = .rem) → b ≠ 0) else 0 ≤ b
  | .str a, .str b => match op with | .add => a.length + b.length ≤ 9223372036854775807 | .eql | .neq | .lss | .gtr | .leq | .geq => True | _ => False
  | .bool _, .bool _ => d = .bool ∧ (op = .eql ∨ op = .neq)
  | .nilS, .nilS | .lst (_ :: _), .nilS => (match d with | .slice _ => True | _ => False) ∧ (op = .eql ∨ op = .neq)
  | _, _ => False
theorem exec_bin {o : Oper} {e : Env} {H : Heap} {op : BinOp} {t t' : TypeId} {x y : Operand} (ho : o.op = .binOp op t x y t') (h : binOk op (P.ti t).d (e.ev x) (e.ev y)) : Exec P o e H (binAV op (P.ti t).d (e.ev x) (e.ev y)) H := by
  cases hx : e.ev x <;> cases hy : e.ev y <;> rw [hx, hy] at h <;> simp only [binOk] at h
  · -- bools
    rename_i a b
    obtain ⟨hd, h⟩ := h
    have := exec_eqBool (H := H) ho h hd hx hy
    rcases h with rfl | rfl <;> simpa [binAV] using this
  · -- numbers
    rename_i k a q b
    cases hn : isNumOp op with
    | true =>
      rw [hn] at h
      simp only [if_true] at h
      obtain ⟨rfl, h⟩ := h
      simp only [binAV, hn, if_true]
      refine exec_binInt ho hx hy ?_
      cases op <;> simp only [isNumOp, Bool.false_eq_true] at hn <;> simp only [intOp, ne_eq, reduceCtorEq, not_false_eq_true]
      all_goals
        have hb := h (by simp)
        simp only [hb, if_false, reduceCtorEq, not_false_eq_true]
    | false =>
      rw [hn] at h
      simp only [Bool.false_eq_true, if_false] at h
      simp only [binAV, hn, Bool.false_eq_true, if_false]
      refine exec_shift ho hx hy ?_
      have hb : ¬ b < 0 := by omega
      cases op <;> simp only [isNumOp, reduceCtorEq] at hn <;> simp only [shiftOp, hb, if_false, ne_eq, reduceCtorEq, not_false_eq_true]
  · -- strings
    rename_i a b
    simp only [binAV]
    refine exec_binStr ho hx hy ?_
    cases op <;> simp only at h <;> simp only [strOp, ne_eq, reduceCtorEq, not_false_eq_true]
    simp only [h, if_true, reduceCtorEq, not_false_eq_true]
  · -- nil and nil
    obtain ⟨hd, h⟩ := h
    cases ht : (P.ti t).d <;> rw [ht] at hd <;> try exact hd.elim
    have := exec_nilSlice (H := H) (r := true) ho h ht hx hy (.inl ⟨rfl, rfl⟩)
    rcases h with rfl | rfl <;> simpa [binAV] using this
  · rename_i l
    cases l with
    | nil => exact h.elim
    | cons z l =>
      obtain ⟨hd, h⟩ := h
      cases ht : (P.ti t).d <;> rw [ht] at hd <;> try exact hd.elim
      have := exec_nilSlice (H := H) (r := false) ho h ht hx hy (.inr ⟨⟨_, _, rfl⟩, rfl⟩)
      rcases h with rfl | rfl <;> simpa [binAV] using this

end Go.Ab
end
section
set_option linter.unusedSimpArgs false
set_option linter.unusedVariables false
namespace Go.Ab
variable {P : Program}

def ktOf : Desc → Option KT
  | .int q => some (.int q)
  | .string => some .str
  | .bool => some .bool
  | _ => none
theorem ktOf_of {kT : TypeId} {kt : KT} (h : ktOf (P.ti kT).d = some kt) : kt.of P kT := by
  unfold ktOf at h
  split at h <;> first | (cases h; assumption) | cases h
def storeOf (P : Program) (H : Heap) (t : TypeId) (y : AV) : AV → Out
  | .ptr id off => match H[id]? with
    | some (.cells ty cs) => ⟨y.solid = true ∧ (P.ti t).d ≠ .bad ∧ y.nc = (P.ti t).size ∧ off + y.nc ≤ cs.length, .tup [], H.set id (.cells ty (putCells cs off y.cells))⟩
    | _ => .bad H
  | .vptr id g i off => match H[id]? with
    | some (.row ty g' sz xs) => match xs[i]? with
      | some u => ⟨g = g' ∧ y.solid = true ∧ (P.ti t).d ≠ .bad ∧ y.nc = (P.ti t).size ∧ off + y.nc ≤ u.nc, .tup [], H.set id (.row ty g' sz (xs.set i (u.putAt off y.cells)))⟩
      | none => .bad H
    | _ => .bad H
  | _ => .bad H
def nilOk (H : Heap) : AV → Prop
  | .ptr .. | .eptr .. | .map _ | .func (.func _) [] _ => True
  | .vptr id g _ _ => ∃ ty sz xs, H[id]? = some (.row ty g sz xs)
  | _ => False
def convOf (H : Heap) (s d : Desc) : AV → Out
  | .int q i => match d with
    | .int k => ⟨s ≠ .bad, .int k (k.wrap i), H⟩
    | _ => .bad H
  | .str b => ⟨s = .string ∧ d = .string, .str b, H⟩
  | _ => .bad H
/-- A slice of a thing from l to h. -/
def sliceOf (P : Program) (H : Heap) (d : Desc) (l h : Int) (hiGiven : Bool) : AV → Out
  | .str s => ⟨d = .string ∧ 0 ≤ l ∧ l ≤ h ∧ h ≤ s.length, .str ((s.drop l.toNat).take (h.toNat - l.toNat)), H⟩
  | .lst xs => match d with
    | .slice el => ⟨(P.ti el).d ≠ .bad ∧ (∀ z ∈ xs, z.nc = (P.ti el).size) ∧ 0 ≤ l ∧ l ≤ h ∧ h ≤ xs.length, .lst ((xs.drop l.toNat).take (h.toNat - l.toNat)), H⟩
    | _ => .bad H
  | .nilS => match d with
    | .slice el => ⟨(P.ti el).d ≠ .bad ∧ l = 0 ∧ h = 0, .nilS, H⟩
    | _ => .bad H
  | .view id g off len => match d, H[id]? with
    | .slice el, some (.row ty g' sz xs) => ⟨g = g' ∧ (P.ti el).d ≠ .bad ∧ (P.ti el).size = sz ∧ 0 ≤ l ∧ l ≤ h ∧ h ≤ len ∧ l < len, .view id g (off + l.toNat) (h.toNat - l.toNat), H⟩
    | _, _ => .bad H
  | _ => .bad H
def indexAddrOf (P : Program) (H : Heap) (d : Desc) (i : Int) : AV → Out
  | .ptr id off => match d with
    | .array n el => ⟨0 ≤ i ∧ i < n ∧ (P.ti el).d ≠ .bad, .ptr id (off + i.toNat * (P.ti el).size), H⟩
    | _ => .bad H
  | .lst xs => match d, xs[i.toNat]? with
    | .slice el, some z => ⟨0 ≤ i ∧ (P.ti el).d ≠ .bad ∧ z.nc = (P.ti el).size, .eptr xs i.toNat 0, H⟩
    | _, _ => .bad H
  | .view id g off len => match d, H[id]? with
    | .slice el, some (.row ty g' sz xs) => match xs[off + i.toNat]? with
      | some z => ⟨g = g' ∧ 0 ≤ i ∧ i < len ∧ (P.ti el).d ≠ .bad ∧ z.nc = (P.ti el).size, .vptr id g (off + i.toNat) 0, H⟩
      | none => .bad H
    | _, _ => .bad H
  | _ => .bad H
def indexOf (H : Heap) (d : Desc) (i : Int) : AV → Out
  | .str s => match s[i.toNat]? with
    | some b => ⟨d = .string ∧ 0 ≤ i, .int .u8 b.toNat, H⟩
    | none => .bad H
  | _ => .bad H
def lookupOf (P : Program) (H : Heap) (d : Desc) (y : AV) (ok : Bool) : AV → Out
  | .map id => match d, H[id]? with
    | .map kT eT, some (.map kt es) => match y.key kt with
      | some k => ⟨ktOf (P.ti kT).d = some kt ∧ (P.ti eT).zero ≠ .junk, if ok = true then .tup [(mget es k).getD (P.ti eT).zero, .bool (mget es k).isSome] else (mget es k).getD (P.ti eT).zero, H⟩
      | none => .bad H
    | _, _ => .bad H
  | _ => .bad H
def updateOf (P : Program) (H : Heap) (d : Desc) (y z : AV) : AV → Out
  | .map id => match d, H[id]? with
    | .map kT eT, some (.map kt es) => match y.key kt with
      | some k => ⟨ktOf (P.ti kT).d = some kt, .tup [], H.set id (.map kt (mput es k z))⟩
      | none => .bad H
    | _, _ => .bad H
  | _ => .bad H
def isStrAV : AV → Bool
  | .str _ => true
  | _ => false
def appendOf (P : Program) (H : Heap) (t1 t2 : TypeId) (y : AV) : AV → Out
  | .nilS => match (P.ti t1).d, elemsOf H y with
    | .slice el, some ys =>
      ⟨((P.ti t2).d = .string ∨ ∃ q, (P.ti t2).d = .slice q) ∧ (P.ti el).d ≠ .bad ∧ (P.ti el).zero.solid = true ∧ (P.ti el).zero.nc = (P.ti el).size ∧ 0 < (P.ti el).bytes ∧
        (∀ z ∈ ys, z.nc = (P.ti el).size) ∧ (∀ z ∈ ys, z.solid = true) ∧ ys.length * (P.ti el).bytes ≤ 140737488355328,
        .view H.length 1 0 ys.length, H ++ [.row el 1 (P.ti el).size ys]⟩
    | _, _ => .bad H
  | .view id g off len => match (P.ti t1).d, H[id]?, elemsOf H y with
    | .slice el, some (.row ty g' sz xs), some ys =>
      ⟨ty = el ∧ g = g' ∧ off + len ≤ xs.length ∧ ((P.ti t2).d = .string ∨ ∃ q, (P.ti t2).d = .slice q) ∧ (P.ti el).d ≠ .bad ∧ (P.ti el).size = sz ∧ (P.ti el).zero.solid = true ∧ (P.ti el).zero.nc = sz ∧ 0 < (P.ti el).bytes ∧
        (∀ z ∈ ys, z.nc = sz) ∧ (∀ z ∈ ys, z.solid = true) ∧ (len + ys.length) * (P.ti el).bytes ≤ 140737488355328,
        .view id (g + 1) 0 (len + ys.length), H.set id (.row el (g + 1) sz ((xs.drop off).take len ++ ys))⟩
    | _, _, _ => .bad H
  | _ => .bad H

def aopCall (P : Program) (c : Callee) (args : List Operand) (ts : List TypeId) (e : Env) (H : Heap) : Out :=
  match c, args, ts with
  | .builtin .len, [x], [t] => match lenAV (e.ev x) with
    | some n => ⟨if isStrAV (e.ev x) = true then (P.ti t).d = .string else ∃ q, (P.ti t).d = .slice q, .int .i64 n, H⟩
    | none => .bad H
  | .builtin .append, [s, x], [t1, t2] => appendOf P H t1 t2 (e.ev x) (e.ev s)
  | _, _, _ => .bad H
/-- WHAT AN OPERATION GIVES. -/
def aop (P : Program) (op : Op) (e : Env) (H : Heap) : Out :=
  match op with
  | .move x | .assign x => ⟨True, e.ev x, H⟩
  | .pick c x y => match e.ev c with
    | .bool b => ⟨True, if b = true then e.ev x else e.ev y, H⟩
    | _ => .bad H
  | .alloc t => ⟨(P.ti t).zero.solid = true, .ptr H.length 0, H ++ [.cells t (P.ti t).zero.cells]⟩
  | .box t x => ⟨(e.ev x).solid = true, .ptr H.length 0, H ++ [.cells t (e.ev x).cells]⟩
  | .build t parts => match (P.ti t).d, (P.ti t).zero with
    | .struct fs, .agg zs => match buildCells P fs (parts.toList.map fun x => (x.1, e.ev x.2)) zs with
      | some cs => ⟨∀ f ∈ fs, (P.ti f.1).d ≠ .bad, .agg cs, H⟩
      | none => .bad H
    | _, _ => .bad H
  | .buildSlice t len parts => match (P.ti t).d with
    | .slice el => ⟨(P.ti el).d ≠ .bad ∧ (P.ti el).zero.solid = true ∧ (P.ti el).zero.nc = (P.ti el).size ∧ parts.toList.map (·.1) = List.range len ∧ (∀ y ∈ parts.toList.map (fun x => e.ev x.2), y.nc = (P.ti el).size) ∧
        (∀ y ∈ parts.toList.map (fun x => e.ev x.2), y.solid = true) ∧ len * (P.ti el).size ≤ 16777216, .lst (parts.toList.map fun x => e.ev x.2), H⟩
    | _ => .bad H
  | .load t x => ⟨(loadOf P H t (e.ev x)).isSome = true, (loadOf P H t (e.ev x)).getD .junk, H⟩
  | .store t x z => storeOf P H t (e.ev z) (e.ev x)
  | .nilCheck x => ⟨nilOk H (e.ev x), e.ev x, H⟩
  | .binOp op t x y _ => ⟨binOk op (P.ti t).d (e.ev x) (e.ev y), binAV op (P.ti t).d (e.ev x) (e.ev y), H⟩
  | .unOp .not _ x => match e.ev x with
    | .bool b => ⟨True, .bool (!b), H⟩
    | _ => .bad H
  | .unOp .neg _ x => match e.ev x with
    | .int k i => ⟨True, .int k (k.wrap (0 - i)), H⟩
    | _ => .bad H
  | .convert s d x => convOf H (P.ti s).d (P.ti d).d (e.ev x)
  | .makeInterface t x => ⟨(P.ti t).d ≠ .bad ∧ ∀ b, (P.ti t).d ≠ .iface b, .iface t (e.ev x), H⟩
  | .makeFunc fn first cap => ⟨True, .func fn (first.toList.map e.ev) (cap.toList.map e.ev), H⟩
  | .makeMap t r => match (P.ti t).d with
    | .map kT eT => match ktOf (P.ti kT).d with
      | some kt => ⟨∀ x, r = some x → ∃ k n, e.ev x = .int k n, .map H.length, H ++ [.map kt []]⟩
      | none => .bad H
    | _ => .bad H
  | .makeSlice t l c => match (P.ti t).d, e.ev l, e.ev c with
    | .slice el, .int _ n, .int _ m => ⟨n = m ∧ 0 ≤ n ∧ (P.ti el).d ≠ .bad ∧ (P.ti el).zero.solid = true ∧ (P.ti el).zero.nc = (P.ti el).size ∧ n ≤ 9223372036854775807 ∧ (P.ti el).bytes * n.toNat ≤ 281474976710656,
        .view H.length 1 0 n.toNat, H ++ [.row el 1 (P.ti el).size (List.replicate n.toNat (P.ti el).zero)]⟩
    | _, _, _ => .bad H
  | .slice t x lo hi none => match boundOf e lo 0, lenAV (e.ev x) with
    | some l, some n => match boundOf e hi n with
      | some h => sliceOf P H (P.ti t).d l h hi.isSome (e.ev x)
      | none => .bad H
    | _, _ => .bad H
  | .fieldAddr s x f => match fieldOf P s f with
    | some (ft, off, _) => ⟨(e.ev x).isPtr = true ∧ (P.ti ft).d ≠ .bad ∧ (P.ti ft).size ≠ 0 ∧ curPtr H (e.ev x), (e.ev x).shift off, H⟩
    | none => .bad H
  | .field s x f => match fieldOf P s f, e.ev x with
    | some (ft, off, _), .agg cs => ⟨(P.part ft cs off).isSome = true, (P.part ft cs off).getD .junk, H⟩
    | _, _ => .bad H
  | .indexAddr t x ix => match e.ev ix with
    | .int _ i => indexAddrOf P H (P.ti t).d i (e.ev x)
    | _ => .bad H
  | .index t x ix => match e.ev ix with
    | .int _ i => indexOf H (P.ti t).d i (e.ev x)
    | _ => .bad H
  | .lookup t x ix ok => lookupOf P H (P.ti t).d (e.ev ix) ok (e.ev x)
  | .mapUpdate t m k x | .insert t m k x => updateOf P H (P.ti t).d (e.ev k) (e.ev x) (e.ev m)
  | .extract t i => match e.ev t with
    | .tup xs => ⟨(xs[i]?).isSome = true, (xs[i]?).getD .junk, H⟩
    | _ => .bad H
  | .call c => aopCall P c.callee c.args.toList c.argTypes.toList e H
  | _ => .bad H

section
variable {o : Oper} {e : Env} {H : Heap}
theorem store_sound {t : TypeId} {x z : Operand} (ho : o.op = .store t x z) (h : (storeOf P H t (e.ev z) (e.ev x)).ok) : Exec P o e H (storeOf P H t (e.ev z) (e.ev x)).v (storeOf P H t (e.ev z) (e.ev x)).H := by
  cases hx : e.ev x <;> rw [hx] at h <;> simp only [storeOf] at h ⊢ <;> try exact h.elim
  · split at h
    · rename_i ty cs hH; (try simp only [hH]); exact exec_store_ptr ho hx rfl hH h.1 h.2.1 h.2.2.1 h.2.2.2
    · exact h.elim
  · split at h
    · rename_i ty g' sz xs hH
      try simp only [hH]
      split at h
      · rename_i u hu
        try simp only [hu]
        obtain ⟨rfl, h1, h2, h3, h4⟩ := h
        exact exec_store_vptr ho hx rfl hH hu h1 h2 h3 h4
      · exact h.elim
    · exact h.elim
theorem conv_sound {s d : TypeId} {x : Operand} (ho : o.op = .convert s d x) (h : (convOf H (P.ti s).d (P.ti d).d (e.ev x)).ok) : Exec P o e H (convOf H (P.ti s).d (P.ti d).d (e.ev x)).v (convOf H (P.ti s).d (P.ti d).d (e.ev x)).H := by
  cases hx : e.ev x <;> rw [hx] at h <;> simp only [convOf] at h ⊢ <;> try exact h.elim
  · split at h
    · rename_i k hd; (try simp only [hd]); exact exec_convInt ho hx h hd
    · exact h.elim
  · exact exec_convStr ho hx h.1 h.2
theorem slice_sound {t : TypeId} {x : Operand} {lo hi : Option Operand} {l h : Int} {n : Nat} (ho : o.op = .slice t x lo hi none) (hl : boundOf e lo 0 = some l) (hn : lenAV (e.ev x) = some n) (hh : boundOf e hi n = some h) (hk : (sliceOf P H (P.ti t).d l h hi.isSome (e.ev x)).ok) :
    Exec P o e H (sliceOf P H (P.ti t).d l h hi.isSome (e.ev x)).v (sliceOf P H (P.ti t).d l h hi.isSome (e.ev x)).H := by
  cases hx : e.ev x <;> rw [hx] at hk hn <;> simp only [sliceOf] at hk ⊢ <;> try exact hk.elim
  · simp only [lenAV, Option.some.injEq] at hn
    subst hn
    exact exec_slice_str ho hx hk.1 hl hh hk.2.1 hk.2.2.1 hk.2.2.2
  · split at hk
    · rename_i el hd
      try simp only [hd]
      simp only [lenAV, Option.some.injEq] at hn
      subst hn
      exact exec_slice_nil ho hx hd hk.1 hl hh hk.2.1 hk.2.2
    · exact hk.elim
  · split at hk
    · rename_i el hd
      try simp only [hd]
      simp only [lenAV, Option.some.injEq] at hn
      subst hn
      exact exec_slice_lst ho hx hd hk.1 hk.2.1 hl hh hk.2.2.1 hk.2.2.2.1 hk.2.2.2.2
    · exact hk.elim
  · split at hk
    · rename_i el ty g' sz xs hd hH
      try simp only [hd, hH]
      simp only [lenAV, Option.some.injEq] at hn
      subst hn
      obtain ⟨rfl, h1, h2, h3, h4, h5, h6⟩ := hk
      exact exec_slice_view ho hx hH hd h1 h2 hl hh h3 h4 h5 h6
    · exact hk.elim
theorem indexAddr_sound {t : TypeId} {x ix : Operand} {k : IntKind} {i : Int} (ho : o.op = .indexAddr t x ix) (hi : e.ev ix = .int k i) (h : (indexAddrOf P H (P.ti t).d i (e.ev x)).ok) : Exec P o e H (indexAddrOf P H (P.ti t).d i (e.ev x)).v (indexAddrOf P H (P.ti t).d i (e.ev x)).H := by
  cases hx : e.ev x <;> rw [hx] at h <;> simp only [indexAddrOf] at h ⊢ <;> try exact h.elim
  · split at h
    · rename_i el z hd hz
      try simp only [hd, hz]
      exact exec_indexAddr_lst ho hx hi h.1 hz hd h.2.1 h.2.2
    · exact h.elim
  · split at h
    · rename_i el ty g' sz xs hd hH
      try simp only [hd, hH]
      split at h
      · rename_i z hz
        try simp only [hz]
        obtain ⟨rfl, h1, h2, h3, h4⟩ := h
        exact exec_indexAddr_view ho hx hi h1 h2 hH hz hd h3 h4
      · exact h.elim
    · exact h.elim
  · split at h
    · rename_i n el hd
      try simp only [hd]
      exact exec_indexAddr_arr ho hx hi h.1 h.2.1 hd h.2.2
    · exact h.elim
theorem index_sound {t : TypeId} {x ix : Operand} {k : IntKind} {i : Int} (ho : o.op = .index t x ix) (hi : e.ev ix = .int k i) (h : (indexOf H (P.ti t).d i (e.ev x)).ok) : Exec P o e H (indexOf H (P.ti t).d i (e.ev x)).v (indexOf H (P.ti t).d i (e.ev x)).H := by
  cases hx : e.ev x <;> rw [hx] at h <;> simp only [indexOf] at h ⊢ <;> try exact h.elim
  split at h
  · rename_i b hb
    try simp only [hb]
    exact exec_index_str ho hx hi h.2 hb h.1
  · exact h.elim
theorem lookup_sound {t : TypeId} {x ix : Operand} {ok : Bool} (ho : o.op = .lookup t x ix ok) (h : (lookupOf P H (P.ti t).d (e.ev ix) ok (e.ev x)).ok) : Exec P o e H (lookupOf P H (P.ti t).d (e.ev ix) ok (e.ev x)).v (lookupOf P H (P.ti t).d (e.ev ix) ok (e.ev x)).H := by
  cases hx : e.ev x <;> rw [hx] at h <;> simp only [lookupOf] at h ⊢ <;> try exact h.elim
  split at h
  · rename_i kT eT kt es hd hH
    try simp only [hd, hH]
    split at h
    · rename_i k hk
      try simp only [hk]
      exact exec_lookup ho hx rfl hk hH hd (ktOf_of h.1) h.2
    · exact h.elim
  · exact h.elim
theorem update_sound {t : TypeId} {m k x : Operand} (ho : o.op = .mapUpdate t m k x ∨ o.op = .insert t m k x) (h : (updateOf P H (P.ti t).d (e.ev k) (e.ev x) (e.ev m)).ok) : Exec P o e H (updateOf P H (P.ti t).d (e.ev k) (e.ev x) (e.ev m)).v (updateOf P H (P.ti t).d (e.ev k) (e.ev x) (e.ev m)).H := by
  cases hx : e.ev m <;> rw [hx] at h <;> simp only [updateOf] at h ⊢ <;> try exact h.elim
  split at h
  · rename_i kT eT kt es hd hH
    try simp only [hd, hH]
    split at h
    · rename_i k hk
      try simp only [hk]
      exact exec_mapUpdate ho hx rfl hk rfl hH hd (ktOf_of h)
    · exact h.elim
  · exact h.elim
theorem append_sound {t1 t2 : TypeId} {s x : Operand} (ho : o.op = .call { callee := .builtin .append, args := #[s, x], argTypes := #[t1, t2] }) (h : (appendOf P H t1 t2 (e.ev x) (e.ev s)).ok) : Exec P o e H (appendOf P H t1 t2 (e.ev x) (e.ev s)).v (appendOf P H t1 t2 (e.ev x) (e.ev s)).H := by
  cases hx : e.ev s <;> rw [hx] at h <;> simp only [appendOf] at h ⊢ <;> try exact h.elim
  · split at h
    · rename_i el ys hd hy
      try simp only [hd, hy]
      obtain ⟨h1, h2, h3, h4, h5, h6, h7, h8⟩ := h
      exact exec_append_nil ho hx rfl hy hd h1 h2 rfl h3 h4 h5 h6 h7 h8
    · exact h.elim
  split at h
  · rename_i el ty g' sz xs ys hd hH hy
    try simp only [hd, hH, hy]
    obtain ⟨rfl, rfl, h1, h2, h3, h4, h5, h6, h7, h8, h9, h10⟩ := h
    exact exec_append ho hx rfl hy hH h1 hd h2 h3 h4 h5 h6 h7 h8 h9 h10
  · exact h.elim
theorem len_sound {t : TypeId} {x : Operand} {n : Nat} (ho : o.op = .call { callee := .builtin .len, args := #[x], argTypes := #[t] }) (hn : lenAV (e.ev x) = some n) (h : if isStrAV (e.ev x) = true then (P.ti t).d = .string else ∃ q, (P.ti t).d = .slice q) : Exec P o e H (.int .i64 n) H := by
  refine exec_len ho hn ?_
  cases hx : e.ev x <;> rw [hx] at h <;> simp only [isStrAV, Bool.false_eq_true, if_false, if_true] at h
  all_goals first
    | exact .inl ⟨h, _, rfl⟩
    | exact .inr ⟨h, fun s hs => by cases hs⟩
end
theorem exec_makeMap' {o : Oper} {e : Env} {H : Heap} {t : TypeId} {r : Option Operand} {kt : KT} {kT eT : TypeId} (ho : o.op = .makeMap t r) (ht : (P.ti t).d = .map kT eT) (hr : ∀ x, r = some x → ∃ k n, e.ev x = .int k n) : Exec P o e H (.map H.length) (H ++ [.map kt []]) := by
  cases r with
  | none => exact exec_makeMap (k := .i64) ho ht (fun x h => by cases h)
  | some x =>
    obtain ⟨k, n, h⟩ := hr x rfl
    exact exec_makeMap (k := k) ho ht (fun y hy => by cases hy; exact ⟨n, h⟩)
theorem isSome_getD' {α : Type} {x : Option α} {d : α} (h : x.isSome = true) : x = some (x.getD d) := by cases x <;> simp_all
theorem aop_sound {o : Oper} {e : Env} {H : Heap} : ∀ {op : Op}, o.op = op → (aop P op e H).ok → Exec P o e H (aop P op e H).v (aop P op e H).H := by
  intro op ho h
  cases op with
  | move x => exact exec_move (.inl ho)
  | assign x => exact exec_move (.inr ho)
  | pick c x y =>
    simp only [aop] at h ⊢
    split at h
    · rename_i b hc; (try simp only [hc]); exact exec_pick ho hc
    · exact h.elim
  | alloc t => exact exec_alloc ho h
  | box t x => exact exec_box ho rfl h
  | build t parts =>
    simp only [aop] at h ⊢
    split at h
    · rename_i fs zs hd hz
      try simp only [hd, hz]
      split at h
      · rename_i cs hb
        try simp only [hb]
        exact exec_build ho hd hz h hb
      · exact h.elim
    · exact h.elim
  | buildSlice t len parts =>
    simp only [aop] at h ⊢
    split at h
    · rename_i el hd
      try simp only [hd]
      obtain ⟨h1, h2, h3, h4, h5, h6, h7⟩ := h
      exact exec_buildSlice ho hd h1 rfl h2 h3 h4 rfl h5 h6 h7
    · exact h.elim
  | load t x => exact exec_load ho (isSome_getD' h)
  | store t x z => exact store_sound ho h
  | nilCheck x =>
    simp only [aop] at h ⊢
    refine exec_nilCheck ho rfl ?_ ?_
    · cases hx : e.ev x <;> rw [hx] at h <;> simp only [nilOk] at h <;> try exact .inl rfl
      · exact .inr (.inr ⟨_, rfl⟩)
      · split at h
        · rename_i e1; cases e1
        · rename_i e1; cases e1
        · rename_i e1; cases e1
        · rename_i e1; cases e1; exact .inr (.inl ⟨_, _, rfl⟩)
        · rename_i e1; cases e1
        · exact h.elim
    · intro id g i k hx
      rw [hx] at h
      exact h
  | binOp op t x y t' => exact exec_bin ho h
  | unOp op t x =>
    cases op <;> simp only [aop] at h ⊢ <;> try exact h.elim
    · split at h
      · rename_i k i hx; (try simp only [hx]); exact exec_neg ho hx
      · exact h.elim
    · split at h
      · rename_i b hx; (try simp only [hx]); exact exec_not ho hx
      · exact h.elim
  | convert s d x => exact conv_sound ho h
  | makeInterface t x => exact exec_makeIface ho rfl h.1 h.2
  | makeFunc fn first cap => exact exec_makeFunc ho
  | makeMap t r =>
    simp only [aop] at h ⊢
    split at h
    · rename_i kT eT hd
      try simp only [hd]
      split at h
      · rename_i kt hk
        try simp only [hk]
        exact exec_makeMap' ho hd h
      · exact h.elim
    · exact h.elim
  | makeSlice t l c =>
    simp only [aop] at h ⊢
    split at h
    · rename_i el k1 n k2 m hd hl hc
      try simp only [hd, hl, hc]
      obtain ⟨rfl, h0, h1, h2, h3, h4, h5⟩ := h
      obtain ⟨n, rfl⟩ := Int.eq_ofNat_of_zero_le h0
      exact exec_makeSlice ho hl hc hd h1 rfl h2 h3 (by omega) h5
    · exact h.elim
  | slice t x lo hi mx =>
    cases mx with
    | some m => exact h.elim
    | none =>
      simp only [aop] at h ⊢
      split at h
      · rename_i l n hl hn
        try simp only [hl, hn]
        split at h
        · rename_i hh' hh
          try simp only [hh]
          exact slice_sound ho hl hn hh h
        · exact h.elim
      · exact h.elim
  | fieldAddr s x f =>
    simp only [aop] at h ⊢
    split at h
    · rename_i ft off u hf
      try simp only [hf]
      unfold fieldOf at hf
      split at hf
      · rename_i fs hd
        exact exec_fieldAddr ho rfl h.1 hd hf h.2.1 h.2.2.1 (curPtr_of h.2.2.2)
      · cases hf
    · exact h.elim
  | field s x f =>
    simp only [aop] at h ⊢
    split at h
    · rename_i ft off u cs hf hx
      try simp only [hf, hx]
      unfold fieldOf at hf
      split at hf
      · rename_i fs hd
        exact exec_field ho hx hd hf (isSome_getD' h)
      · cases hf
    · exact h.elim
  | indexAddr t x ix =>
    simp only [aop] at h ⊢
    split at h
    · rename_i k i hi; (try simp only [hi]); exact indexAddr_sound ho hi h
    · exact h.elim
  | index t x ix =>
    simp only [aop] at h ⊢
    split at h
    · rename_i k i hi; (try simp only [hi]); exact index_sound ho hi h
    · exact h.elim
  | lookup t x ix ok => exact lookup_sound ho h
  | mapUpdate t m k x => exact update_sound (.inl ho) h
  | insert t m k x => exact update_sound (.inr ho) h
  | extract t i =>
    simp only [aop] at h ⊢
    split at h
    · rename_i xs ht; (try simp only [ht]); exact exec_extract ho ht (isSome_getD' h)
    · exact h.elim
  | call c =>
    obtain ⟨callee, args, argTypes⟩ := c
    obtain ⟨args⟩ := args
    obtain ⟨argTypes⟩ := argTypes
    simp only [aop] at h ⊢
    unfold aopCall at h ⊢
    split at h
    · rename_i x t
      split at h
      · rename_i n hn; try simp only [hn]
        exact len_sound ho hn h
      · exact h.elim
    · exact append_sound ho h
    · exact h.elim
  | _ => exact h.elim

end Go.Ab
end
section
set_option linter.unusedSimpArgs false
set_option linter.unusedVariables false
namespace Go.Ab
variable {P : Program} {N : Fr} {ops : Array Oper} {rest : List Oper} {o : Oper} {e : Env} {H : Heap} {Q : Post}

/-- Some operations, one behind the other. -/
def SOPS (P : Program) (N : Fr) (ops : Array Oper) (l : List Oper) (e : Env) (H : Heap) (Q : Post) : Prop :=
  ∀ (G : Ghost) (a : Act) (w : World), Rel G H w → EnvRel N H.length G e a → wpList P ops (Holds N G H.length w Q) l a w
theorem awp_region {id : Nat} {l : List Oper} (h : SOPS P N l.toArray l e H Q) : AWP P N (.region id l.toArray false) e H Q := fun G a w hR hE => wp_region_lit (h G a w hR hE)
theorem sops_nil (h : Q .normal e H) : SOPS P N ops [] e H Q := fun G a w hR hE => wpList_nil ⟨.normal, e, H, G, trivial, h, hR, hE, Step.refl _ _ _⟩
theorem wpList_mono {Q Q' : Exit → Act → World → Prop} (hq : ∀ x a w, Q x a w → Q' x a w) : ∀ (l : List Oper) (a : Act) (w : World), wpList P ops Q l a w → wpList P ops Q' l a w := by
  intro l
  induction l with
  | nil => intro a w h; exact hq _ _ _ h
  | cons o l ih =>
    intro a w h
    unfold wpList at h ⊢
    split
    · rename_i hw
      rw [if_pos hw] at h
      rcases h with h | ⟨h1, a', w', h2⟩
      · refine .inl ?_
        unfold Oper.wp Oper.upon at h ⊢
        split at h
        · exact ih _ _ h
        · exact ih _ _ h
        · exact ih _ _ h
        · refine h.mono fun en w' hk => ?_
          cases en with
          | returned v => exact ih _ _ hk
          | panicked c => exact hq _ _ _ hk
          | outgrown => obtain ⟨a0, w0, h0⟩ := hk; exact ⟨a0, w0, hq _ _ _ h0⟩
        · exact h.mono fun v w' hk => ih _ _ hk
        · exact hq _ _ _ h
        · exact h.elim
      · exact .inr ⟨h1, a', w', hq _ _ _ h2⟩
    · rename_i hw
      rw [if_neg hw] at h
      exact ih _ _ h
/-- A result put into its slot. -/
def Env.put (e : Env) : Option Nat → AV → Env
  | none, _ => e
  | some d, x => (d, x) :: e
def dstOk (N : Fr) : Option Nat → Prop
  | none => True
  | some d => d < N.size
theorem EnvRel.putO {n : Nat} {G : Ghost} {a : Act} (h : EnvRel N n G e a) {d : Option Nat} (hd : dstOk N d) {x : AV} {v : Value} (hv : V n G x v) : EnvRel N n G (e.put d x) (a.put d v) := by
  cases d with
  | none => exact h
  | some d => exact h.put hd hv
theorem sops_exec {x : AV} {H' : Heap} (hg : o.guard = none) (hd : dstOk N o.dst) (hx : Exec P o e H x H') (k : SOPS P N ops rest (e.put o.dst x) H' Q) : SOPS P N ops (o :: rest) e H Q := by
  intro G a w hR hE
  refine wpList_plain hg fun K hK => ?_
  obtain ⟨r, v, w', G', hr, hrv, hv, hR', hs⟩ := hx N G a w hR hE
  have hk := wpList_mono (fun _ _ _ => Holds.trans hs) _ _ _ (k G' (a.put o.dst v) w' hR' ((hE.mono hs.ext).putO hd hv))
  unfold Oper.wp
  rw [hr]
  rcases hrv with rfl | ⟨rfl, rfl⟩
  · exact hK _ _ hk
  · exact hK _ _ hk
/-- A bool that a guard asks. -/
def AV.isB : AV → Bool → Option Bool
  | .bool c, b => some (c == b)
  | .tup [], _ => some false
  | _, _ => none
@[simp] theorem isB_ite {c : Prop} [Decidable c] {x y : AV} {b : Bool} : (if c then x else y : AV).isB b = if c then x.isB b else y.isB b := by split <;> rfl
def guardOf (ops : Array Oper) (e : Env) (j : Nat) (b : Bool) : Option Bool :=
  match (ops[j]?).bind (·.dst) with
  | some d => (e.get d).isB b
  | none => none
theorem guard_wanted {n : Nat} {G : Ghost} {a : Act} {j : Nat} {b want : Bool} (hg : o.guard = some (j, b)) (hw : guardOf ops e j b = some want) (hE : EnvRel N n G e a) : Region.wanted o (yielded ops a.tmps) = want := by
  unfold guardOf at hw
  split at hw
  · rename_i d hd
    have hv := hE.slot d
    simp only [Region.wanted, hg, yielded, hd, Option.bind_some]
    have hgd : ∀ u, a.tmps.getD d undef = u → (∃ c, u = .bool c) → a.tmps[d]? = some u := by
      rintro u hu ⟨c, rfl⟩
      rw [Array.getD_eq_getD_getElem?] at hu
      cases hh : a.tmps[d]? with
      | none => rw [hh] at hu; cases hu
      | some y => rw [hh] at hu; simp at hu; rw [hu]
    cases hx : e.get d <;> rw [hx] at hw hv <;> try (simp only [AV.isB, reduceCtorEq] at hw; done)
    · rename_i c
      simp only [AV.isB, Option.some.injEq] at hw
      simp only [V] at hv
      subst hw
      rw [hgd _ hv ⟨c, rfl⟩]
      cases c <;> cases b <;> rfl
    · rename_i vs
      cases vs with
      | cons y ys => simp only [AV.isB, reduceCtorEq] at hw
      | nil =>
        simp only [AV.isB, Option.some.injEq] at hw
        subst hw
        simp only [V] at hv
        obtain ⟨us, hu, hz, _⟩ := hv
        rw [Array.getD_eq_getD_getElem?] at hu
        cases hh : a.tmps[d]? with
        | none => rfl
        | some u =>
          rw [hh] at hu
          simp at hu
          subst hu
          rfl
  · cases hw
theorem V_undef {n : Nat} {G : Ghost} : V n G (.tup []) undef := by simp only [V]; exact ⟨#[], rfl, rfl, by simp [Vcells]⟩
/-- An operation that may be passed over. -/
theorem sops_guard {x : AV} {j : Nat} {b want : Bool} (hg : o.guard = some (j, b)) (hw : guardOf ops e j b = some want) (hd : dstOk N o.dst) (hx : want = true → Exec P o e H x H) (k : SOPS P N ops rest (e.put o.dst (if want = true then x else .tup [])) H Q) : SOPS P N ops (o :: rest) e H Q := by
  intro G a w hR hE
  have hwant := guard_wanted hg hw hE
  refine wpList_step fun K hK => ?_
  rw [hwant]
  cases want with
  | false =>
    rw [if_neg (by simp)]
    exact hK _ _ (k G (a.put o.dst undef) w hR (hE.putO hd (by simpa using V_undef)))
  | true =>
    rw [if_pos rfl]
    obtain ⟨r, v, w', G', hr, hrv, hv, hR', hs⟩ := hx rfl N G a w hR hE
    have hk := wpList_mono (fun _ _ _ => Holds.trans hs) _ _ _ (k G' (a.put o.dst v) w' hR' ((hE.mono hs.ext).putO hd hv))
    unfold Oper.wp
    rw [hr]
    rcases hrv with rfl | ⟨rfl, rfl⟩
    · exact hK _ _ hk
    · exact hK _ _ hk
/-- One that is known to be passed over, or not. -/
theorem sops_guard_no {j : Nat} {b : Bool} (hg : o.guard = some (j, b)) (hw : guardOf ops e j b = some false) (hd : dstOk N o.dst) (k : SOPS P N ops rest (e.put o.dst (.tup [])) H Q) : SOPS P N ops (o :: rest) e H Q := by
  intro G a w hR hE
  refine wpList_step fun K hK => ?_
  rw [guard_wanted hg hw hE, if_neg (by simp)]
  exact hK _ _ (k G (a.put o.dst undef) w hR (hE.putO hd V_undef))
theorem sops_guard_yes {x : AV} {H' : Heap} {j : Nat} {b : Bool} (hg : o.guard = some (j, b)) (hw : guardOf ops e j b = some true) (hd : dstOk N o.dst) (hx : Exec P o e H x H') (k : SOPS P N ops rest (e.put o.dst x) H' Q) : SOPS P N ops (o :: rest) e H Q := by
  intro G a w hR hE
  refine wpList_step fun K hK => ?_
  rw [guard_wanted hg hw hE, if_pos rfl]
  obtain ⟨r, v, w', G', hr, hrv, hv, hR', hs⟩ := hx N G a w hR hE
  have hk := wpList_mono (fun _ _ _ => Holds.trans hs) _ _ _ (k G' (a.put o.dst v) w' hR' ((hE.mono hs.ext).putO hd hv))
  unfold Oper.wp
  rw [hr]
  rcases hrv with rfl | ⟨rfl, rfl⟩
  · exact hK _ _ hk
  · exact hK _ _ hk

/-! ### Calls -/
theorem run_callFunc {f : FuncId} {args : Array Value} (h : P.enters f = true) (w : World) : (callFunc f args).run P w = .ok (.enter f args) w := by
  unfold Program.enters at h
  split at h
  · rename_i fn hf
    rw [Bool.and_eq_true] at h
    simp only [Bool.not_eq_true'] at h
    show (program.bind _).run P w = _
    rw [run_bind]
    simp only [program, Sem.run, hf, h.2, Bool.false_eq_true, if_false]
    cases hb : fn.body with
    | none => rw [hb] at h; simp at h
    | some c => rfl
  · cases h
theorem Vcells_arr_append {n : Nat} {G : Ghost} {l m : List AV} {c d : Array Value} (h : Vcells n G l c 0) (hs : c.size = l.length) (k : Vcells n G m d 0) : Vcells n G (l ++ m) (c ++ d) 0 := by
  rw [Vcells_append]
  refine ⟨Vcells_congr h fun j hj => by rw [Array.getElem?_append_left (by omega)], Vcells_congr k fun j hj => ?_⟩
  rw [Array.getElem?_append_right (by omega)]
  congr 1
  omega
/-- A call: by the slots' values it is function f with these arguments. -/
def calls (e : Env) (c : Call) : Option (FuncId × List AV) :=
  match c.callee with
  | .value f => match e.ev f with
    | .func (.func id) first cap => some (id, first ++ c.args.toList.map e.ev ++ cap)
    | _ => none
  | _ => none
theorem run_call {n : Nat} {G : Ghost} {a : Act} {c : Call} {f : FuncId} {args : List AV} (ho : o.op = .call c) (hc : calls e c = some (f, args)) (hen : P.enters f = true) (hE : EnvRel N n G e a) (w : World) :
    ∃ cargs, (execOp a.eval o).run P w = .ok (.enter f cargs) w ∧ cargs.size = args.length ∧ Vcells n G args cargs 0 := by
  unfold calls at hc
  split at hc
  · rename_i g hg
    split at hc
    · rename_i id first cap hf
      simp only [Option.some.injEq, Prod.mk.injEq] at hc
      obtain ⟨rfl, rfl⟩ := hc
      have hv := hE.ev g
      rw [hf] at hv
      simp only [V] at hv
      obtain ⟨fs, cs, hv, h1, h2, h3, h4⟩ := hv
      refine ⟨fs ++ c.args.map a.eval ++ cs, ?_, by simp [h1, h2], ?_⟩
      · simp only [execOp, ho, bindRun, resolve, hg, hv, Deferred.ofValue, pureRun, invoke]
        exact run_callFunc hen w
      · exact Vcells_arr_append (Vcells_arr_append h3 h1 (Vcells_map hE c.args)) (by simp [h1]) h4
    · cases hc
  · cases hc
theorem sops_call {c : Call} {f : FuncId} {args : List AV} {r : AV} {H' : Heap} (ho : o.op = .call c) (hg : o.guard = none) (hd : dstOk N o.dst) (hc : calls e c = some (f, args)) (hf : DCall P f args H (.ret r) H') (k : SOPS P N ops rest (e.put o.dst r) H' Q) : SOPS P N ops (o :: rest) e H Q := by
  intro G a w hR hE
  refine wpList_plain hg fun K hK => ?_
  obtain ⟨cargs, hrun, hs, hv⟩ := run_call ho hc hf.1 hE w
  unfold Oper.wp
  rw [hrun, Oper.upon_enter]
  refine (hf.2 G w cargs hR hs hv).mono ?_
  rintro en w' ⟨G', hen', hR', hst⟩
  cases en with
  | returned v => exact hK _ _ (wpList_mono (fun _ _ _ => Holds.trans hst) _ _ _ (k G' (a.put o.dst v) w' hR' ((hE.mono hst.ext).putO hd hen')))
  | panicked c => exact hen'.elim
  | outgrown => exact hen'.elim
/-- A call that panics. -/
theorem sops_call_panic {c : Call} {f : FuncId} {args : List AV} {x : AV} {H' : Heap} (ho : o.op = .call c) (hg : o.guard = none) (hc : calls e c = some (f, args)) (hf : DCall P f args H (.panic x) H') (k : Q (.panic x) e H') : SOPS P N ops (o :: rest) e H Q := by
  intro G a w hR hE
  refine wpList_plain hg fun K hK => ?_
  obtain ⟨cargs, hrun, hs, hv⟩ := run_call ho hc hf.1 hE w
  unfold Oper.wp
  rw [hrun, Oper.upon_enter]
  refine (hf.2 G w cargs hR hs hv).mono ?_
  rintro en w' ⟨G', hen', hR', hst⟩
  cases en with
  | returned v => exact hen'.elim
  | panicked c =>
    match c, hen' with
    | [c], hen' => exact ⟨.panic x, e, H', G', hen', k, hR', hE.mono hst.ext, hst⟩
  | outgrown => exact hen'.elim
/-- A call under a guard. -/
theorem sops_call_guard {c : Call} {f : FuncId} {args : List AV} {r : AV} {j : Nat} {b want : Bool} (ho : o.op = .call c) (hg : o.guard = some (j, b)) (hw : guardOf ops e j b = some want) (hd : dstOk N o.dst) (hf : want = true → calls e c = some (f, args) ∧ DCall P f args H (.ret r) H) (k : SOPS P N ops rest (e.put o.dst (if want = true then r else .tup [])) H Q) : SOPS P N ops (o :: rest) e H Q := by
  intro G a w hR hE
  refine wpList_step fun K hK => ?_
  rw [guard_wanted hg hw hE]
  cases want with
  | false =>
    rw [if_neg (by simp)]
    exact hK _ _ (k G (a.put o.dst undef) w hR (hE.putO hd (by simpa using V_undef)))
  | true =>
    rw [if_pos rfl]
    obtain ⟨hc, hf⟩ := hf rfl
    obtain ⟨cargs, hrun, hs, hv⟩ := run_call ho hc hf.1 hE w
    unfold Oper.wp
    rw [hrun, Oper.upon_enter]
    refine (hf.2 G w cargs hR hs hv).mono ?_
    rintro en w' ⟨G', hen', hR', hst⟩
    cases en with
    | returned v => exact hK _ _ (wpList_mono (fun _ _ _ => Holds.trans hst) _ _ _ (k G' (a.put o.dst v) w' hR' ((hE.mono hst.ext).putO hd hen')))
    | panicked c => exact hen'.elim
    | outgrown => exact hen'.elim

/-! ### Many at a time -/
def isCall : Op → Bool
  | .call { callee := .builtin _, .. } => false
  | .call _ => true
  | _ => false
theorem aop_congr {op : Op} {e e' : Env} (h : ∀ x ∈ op.operands.toList, e.ev x = e'.ev x) : aop P op e H = aop P op e' H := by
  cases op with
  | pick c x y => simp [Op.operands] at h; simp [aop, h]
  | build t parts =>
    have hp : (parts.toList.map fun x => (x.1, e.ev x.2)) = parts.toList.map fun x => (x.1, e'.ev x.2) := List.map_congr_left fun x hx => by
      rw [h x.2 (by simp only [Op.operands, List.mem_map]; exact ⟨x, hx, rfl⟩)]
    simp only [aop, hp]
  | buildSlice t len parts =>
    have hp : (parts.toList.map fun x => e.ev x.2) = parts.toList.map fun x => e'.ev x.2 := List.map_congr_left fun x hx => by
      rw [h x.2 (by simp only [Op.operands, List.mem_map]; exact ⟨x, hx, rfl⟩)]
    simp only [aop, hp]
  | unOp op t x => simp [Op.operands] at h; cases op <;> simp [aop, h]
  | makeFunc fn first cap =>
    have h1 : first.toList.map e.ev = first.toList.map e'.ev := List.map_congr_left fun x hx => h x (by simp only [Op.operands, Array.toList_append, List.mem_append]; exact .inl hx)
    have h2 : cap.toList.map e.ev = cap.toList.map e'.ev := List.map_congr_left fun x hx => h x (by simp only [Op.operands, Array.toList_append, List.mem_append]; exact .inr hx)
    simp only [aop, h1, h2]
  | makeMap t r =>
    simp only [aop]
    split
    · split
      · congr 1
        apply propext
        constructor
        · intro k x hx; rw [← h x (by subst hx; simp [Op.operands])]; exact k x hx
        · intro k x hx; rw [h x (by subst hx; simp [Op.operands])]; exact k x hx
      · rfl
    · rfl
  | slice t x lo hi mx =>
    have hx : e.ev x = e'.ev x := h x (by simp [Op.operands])
    have hl : ∀ d, boundOf e lo d = boundOf e' lo d := by
      intro d
      cases lo with
      | none => rfl
      | some y => simp only [boundOf]; rw [h y (by simp [Op.operands])]
    have hh : ∀ d, boundOf e hi d = boundOf e' hi d := by
      intro d
      cases hi with
      | none => rfl
      | some y => simp only [boundOf]; rw [h y (by simp [Op.operands])]
    cases mx with
    | none => simp only [aop, hx, hl, hh]
    | some m => rfl
  | call c =>
    obtain ⟨callee, args, ts⟩ := c
    obtain ⟨args⟩ := args
    have ha : ∀ x ∈ args, e.ev x = e'.ev x := fun x hx => h x (by simp only [Op.operands, Call.operands, Array.toList_append, List.mem_append]; exact .inr hx)
    simp only [aop]
    unfold aopCall
    split
    · rw [ha _ (by simp)]
    · rw [ha _ (by simp), ha _ (by simp)]
    · rfl
  | _ => simp [Op.operands] at h; simp [aop, h]
/-- What a slot holds: a value, or one that stands only if something is so (else the operation was passed over). -/
inductive GV where
  | p (x : AV)
  | c (g : Bool) (x : AV)
abbrev GEnv := List (Nat × GV)
def GV.real : GV → AV
  | .p x => x
  | .c g x => if g = true then x else .tup []
def GV.raw : GV → AV
  | .p x => x
  | .c _ x => x
def GV.cond : GV → Bool
  | .p _ => true
  | .c g _ => g
def GEnv.get : GEnv → Nat → GV
  | [], _ => .p .junk
  | (t, v) :: r, s => if s = t then v else GEnv.get r s
def GEnv.real (e : GEnv) : Env := e.map fun x => (x.1, x.2.real)
theorem GEnv.real_get (e : GEnv) (s : Nat) : e.real.get s = (e.get s).real := by
  induction e with
  | nil => rfl
  | cons x e ih =>
    simp only [GEnv.real, List.map_cons, Env.get, GEnv.get]
    split
    · rfl
    · exact ih
/-- The values as if all had been done. -/
def GEnv.raw (e : GEnv) : Env := e.map fun x => (x.1, x.2.raw)
theorem GEnv.raw_get (e : GEnv) (s : Nat) : e.raw.get s = (e.get s).raw := by
  induction e with
  | nil => rfl
  | cons x e ih =>
    simp only [GEnv.raw, List.map_cons, Env.get, GEnv.get]
    split
    · rfl
    · exact ih
/-- What is so, if an operand was written. -/
def GEnv.cond (e : GEnv) : Operand → Bool
  | .tmp t => (e.get t).cond
  | _ => true
theorem GV.real_raw {v : GV} (h : v.cond = true) : v.real = v.raw := by
  cases v with
  | p x => rfl
  | c g x => simp only [GV.cond] at h; simp [GV.real, GV.raw, h]
theorem GEnv.ev_eq {e : GEnv} {x : Operand} (h : e.cond x = true) : e.real.ev x = e.raw.ev x := by
  cases x with
  | tmp t => simp only [Env.ev, GEnv.real_get, GEnv.raw_get]; exact GV.real_raw h
  | _ => rfl
/-- Behind a region the slots that hang on something are let go. -/
def GEnv.plain : GEnv → Env
  | [] => []
  | (s, .p x) :: r => (s, x) :: GEnv.plain r
  | (s, .c _ _) :: r => (s, .junk) :: GEnv.plain r
theorem GEnv.plain_le (e : GEnv) : e.real.le e.plain := by
  intro s
  induction e with
  | nil => exact .inl rfl
  | cons x e ih =>
    obtain ⟨t, v⟩ := x
    cases v with
    | p x =>
      simp only [GEnv.plain, GEnv.real, List.map_cons, Env.get, GV.real]
      split
      · exact .inr rfl
      · exact ih
    | c g x =>
      simp only [GEnv.plain, GEnv.real, List.map_cons, Env.get]
      split
      · exact .inl rfl
      · exact ih
def GEnv.put (e : GEnv) : Option Nat → GV → GEnv
  | none, _ => e
  | some d, x => (d, x) :: e
theorem GEnv.put_real (e : GEnv) (d : Option Nat) (v : GV) : (e.put d v).real = e.real.put d v.real := by cases d <;> rfl
def ofEnv (e : Env) : GEnv := e.map fun x => (x.1, .p x.2)
theorem ofEnv_real (e : Env) : (ofEnv e).real = e := by
  induction e with
  | nil => rfl
  | cons x e ih => simp only [ofEnv, GEnv.real, List.map_cons, GV.real] at ih ⊢; rw [ih]
def GV.isB : GV → Bool → Option Bool
  | .p x, b => x.isB b
  | .c g x, b => (x.isB b).map fun r => g && r
theorem GV.isB_real {v : GV} {b r : Bool} (h : v.isB b = some r) : v.real.isB b = some r := by
  cases v with
  | p x => exact h
  | c g x =>
    simp only [GV.isB, Option.map_eq_some_iff] at h
    obtain ⟨q, hq, rfl⟩ := h
    cases g
    · simp [GV.real, AV.isB]
    · simpa [GV.real] using hq
def gguard (ops : Array Oper) (e : GEnv) (j : Nat) (b : Bool) : Option Bool :=
  match (ops[j]?).bind (·.dst) with
  | some d => (e.get d).isB b
  | none => none
theorem gguard_real {ops : Array Oper} {e : GEnv} {j : Nat} {b r : Bool} (h : gguard ops e j b = some r) : guardOf ops e.real j b = some r := by
  unfold gguard at h
  unfold guardOf
  split at h
  · rw [GEnv.real_get]; exact GV.isB_real h
  · cases h
/-- Are an operation's operands there? Of a choice only the one that is taken. -/
def gops (e : GEnv) : Op → Prop
  | .pick c x y => e.cond c = true ∧ (match e.raw.ev c with | .bool b => (b = true → e.cond x = true) ∧ (b = false → e.cond y = true) | _ => False)
  | op => (op.operands.toList.all fun x => e.cond x) = true
theorem aop_real {op : Op} {e : GEnv} (h : gops e op) : (aop P op e.real H).ok = (aop P op e.raw H).ok ∧ (aop P op e.real H).v = (aop P op e.raw H).v ∧ (aop P op e.real H).H = (aop P op e.raw H).H := by
  have gen : (op.operands.toList.all fun x => e.cond x) = true → aop P op e.real H = aop P op e.raw H := by
    intro k
    refine aop_congr fun x hx => GEnv.ev_eq ?_
    simp only [List.all_eq_true] at k
    exact k x hx
  cases op with
  | pick c x y =>
    simp only [gops] at h
    obtain ⟨h1, h2⟩ := h
    simp only [aop, GEnv.ev_eq h1]
    split at h2
    · rename_i b hb
      simp only [hb]
      cases b with
      | true => simp only [if_true, GEnv.ev_eq (h2.1 rfl), and_self]
      | false => simp only [Bool.false_eq_true, if_false, GEnv.ev_eq (h2.2 rfl), and_self]
    · exact h2.elim
  | _ => rw [gen h]; exact ⟨rfl, rfl, rfl⟩
/-- What stands at a call. -/
def GCall (P : Program) (N : Fr) (ops : Array Oper) (l : List Oper) (e : GEnv) (H : Heap) (Q : Post) : Prop := SOPS P N ops l e.real H Q
/-- Operations that need no help, as far as the next call. -/
def sops (P : Program) (N : Fr) (ops : Array Oper) : List Oper → GEnv → Heap → Post → Prop
  | [], e, H, Q => Q .normal e.plain H
  | o :: rest, e, H, Q =>
    if isCall o.op = true then GCall P N ops (o :: rest) e H Q
    else match o.guard with
      | none => dstOk N o.dst ∧ gops e o.op ∧ (aop P o.op e.raw H).ok ∧ sops P N ops rest (e.put o.dst (.p (aop P o.op e.raw H).v)) (aop P o.op e.raw H).H Q
      | some (j, b) => match gguard ops e j b with
        | some want => dstOk N o.dst ∧ (want = true → gops e o.op ∧ (aop P o.op e.raw H).ok) ∧ (aop P o.op e.raw H).H = H ∧ sops P N ops rest (e.put o.dst (.c want (aop P o.op e.raw H).v)) H Q
        | none => False
theorem sops_weaken {e e' : Env} {l : List Oper} (h : SOPS P N ops l e' H Q) (he : e.le e') : SOPS P N ops l e H Q := fun G a w hR hE => h G a w hR (hE.weaken he)
theorem sops_sound : ∀ (l : List Oper) (e : GEnv) (H : Heap), sops P N ops l e H Q → SOPS P N ops l e.real H Q := by
  intro l
  induction l with
  | nil => intro e H h; exact sops_weaken (sops_nil h) e.plain_le
  | cons o l ih =>
    intro e H h
    unfold sops at h
    split at h
    · exact h
    · split at h
      · rename_i hg
        obtain ⟨h1, h2, h3, h4⟩ := h
        obtain ⟨r1, r2, r3⟩ := aop_real (P := P) (H := H) h2
        have hx := aop_sound (P := P) (H := H) (e := e.real) rfl (by rw [r1]; exact h3)
        rw [r2, r3] at hx
        have := ih _ _ h4
        rw [GEnv.put_real] at this
        exact sops_exec hg h1 hx this
      · rename_i j b hg
        split at h
        · rename_i want hw
          obtain ⟨h1, h2, h3, h4⟩ := h
          have := ih _ _ h4
          rw [GEnv.put_real] at this
          refine sops_guard hg (gguard_real hw) h1 (fun hwt => ?_) this
          obtain ⟨k1, k2⟩ := h2 hwt
          obtain ⟨r1, r2, r3⟩ := aop_real (P := P) (H := H) k1
          have hx := aop_sound (P := P) (H := H) (e := e.real) rfl (by rw [r1]; exact k2)
          rw [r2, r3, h3] at hx
          exact hx
        · exact h.elim
theorem calls_congr {c : Call} {e e' : Env} (h : ∀ x ∈ c.operands.toList, e.ev x = e'.ev x) : calls e c = calls e' c := by
  obtain ⟨callee, args, ts⟩ := c
  unfold calls
  cases callee with
  | value f =>
    have hf : e.ev f = e'.ev f := h f (by simp [Call.operands])
    have ha : args.toList.map e.ev = args.toList.map e'.ev := List.map_congr_left fun x hx => h x (by simp only [Call.operands, Array.toList_append, List.mem_append]; exact .inr hx)
    simp only [hf, ha]
  | _ => rfl
def gcallOk (e : GEnv) (c : Call) : Bool := c.operands.toList.all fun x => e.cond x
theorem gcalls_eq {c : Call} {e : GEnv} (h : gcallOk e c = true) : calls e.real c = calls e.raw c := calls_congr fun x hx => GEnv.ev_eq (by
  simp only [gcallOk, List.all_eq_true] at h
  exact h x hx)
theorem gcall {c : Call} {f : FuncId} {args : List AV} {r : AV} {H' : Heap} {e : GEnv} (hg : o.guard = none) (ho : o.op = .call c) (hd : dstOk N o.dst) (hk : gcallOk e c = true) (hc : calls e.raw c = some (f, args)) (hf : DCall P f args H (.ret r) H') (k : sops P N ops rest (e.put o.dst (.p r)) H' Q) : GCall P N ops (o :: rest) e H Q := by
  have := sops_sound _ _ _ k
  rw [GEnv.put_real] at this
  exact sops_call ho hg hd (by rw [gcalls_eq hk]; exact hc) hf this
theorem gcallP {c : Call} {f : FuncId} {args : List AV} {r : AV} {e : GEnv} (hg : o.guard = none) (ho : o.op = .call c) (hd : dstOk N o.dst) (hk : gcallOk e c = true) (hc : calls e.raw c = some (f, args)) (hf : PureFn P f args r) (k : sops P N ops rest (e.put o.dst (.p r)) H Q) : GCall P N ops (o :: rest) e H Q := gcall hg ho hd hk hc (hf H) k
theorem gcallG {c : Call} {f : FuncId} {args : List AV} {r : AV} {j : Nat} {b want : Bool} {e : GEnv} (hg : o.guard = some (j, b)) (hw : gguard ops e j b = some want) (ho : o.op = .call c) (hd : dstOk N o.dst) (hc : calls e.raw c = some (f, args)) (hf : PureFn P f args r) (hk : want = true → gcallOk e c = true) (k : sops P N ops rest (e.put o.dst (.c want r)) H Q) : GCall P N ops (o :: rest) e H Q := by
  have := sops_sound _ _ _ k
  rw [GEnv.put_real] at this
  exact sops_call_guard ho hg (gguard_real hw) hd (fun h => ⟨by rw [gcalls_eq (hk h)]; exact hc, hf H⟩) this
theorem gcallPanic {c : Call} {f : FuncId} {args : List AV} {x : AV} {H' : Heap} {e : GEnv} (hg : o.guard = none) (ho : o.op = .call c) (hk : gcallOk e c = true) (hc : calls e.raw c = some (f, args)) (hf : DCall P f args H (.panic x) H') (k : Q (.panic x) e.real H') : GCall P N ops (o :: rest) e H Q :=
  sops_call_panic ho hg (by rw [gcalls_eq hk]; exact hc) hf k
/-- A region whose order is fixed; what comes behind is hidden. -/
theorem awp_region_k {id : Nat} {l : List Oper} (h : ∀ X : Post, (∀ e H, Q .normal e H → X .normal e H) → sops P N l.toArray l (ofEnv e) H X) : AWP P N (.region id l.toArray false) e H Q := by
  have := sops_sound _ _ _ (h Q fun _ _ k => k)
  rw [ofEnv_real] at this
  exact awp_region this
theorem pure_of_body' {N : Nat} {f : FuncId} {fn : Func} {c : Code} {args : List AV} {r : AV} (hf : P.funcs[f]? = some fn) (hb : fn.body = some c) (hN : fn.ntmps = N) (hen : P.enters f = true) (hn : args.length ≤ N)
    (h : ∀ H : Heap, (∀ o ∈ H, o.under H.length) → AWP P N c (argEnv 0 args) H (pureQ P fn H r)) : PureFn P f args r := by
  subst hN
  exact pure_of_body hf hb hn hen fun H hH => (h H hH).mono (pureQ_end hH)

/-- A function that leaves all as it is, from objects that are as it needs them. -/
theorem dcall_of_body' {N : Nat} {f : FuncId} {fn : Func} {c : Code} {args : List AV} {H : Heap} {r : AV} (hf : P.funcs[f]? = some fn) (hb : fn.body = some c) (hN : fn.ntmps = N) (hen : P.enters f = true) (hn : args.length ≤ N)
    (h : (∀ o ∈ H, o.under H.length) → AWP P N c (argEnv 0 args) H (pureQ P fn H r)) : DCall P f args H (.ret r) H := by
  subst hN
  exact dcall_of_body hf hb hn hen (Nat.le_refl _) fun hH => (h hH).mono (pureQ_end hH)

end Go.Ab
end
section
set_option linter.unusedSimpArgs false
set_option linter.unusedVariables false
/-! Regions whose order the model draws: where what may come in any order does not meet, the listed order tells all. -/
namespace Go.Ab
variable {P : Program} {N : Fr} {ops : Array Oper} {md : Region.Mode} {loud : Nat → Bool}

/-- One operation of a region, from slots and objects. -/
def LStep (P : Program) (N : Fr) (ops : Array Oper) (i : Nat) (o : Oper) (e : Env) (H : Heap) (x : AV) (H' : Heap) : Prop :=
  ∀ e' : Env, (∀ s ∈ o.looksAt ops, e'.get s = e.get s) → ∀ (G : Ghost) (a : Act) (w : World) (K : Act → World → Prop) (Q : Exit → Act → World → Prop), Rel G H w → EnvRel N H.length G e' a →
    (∀ G' v w', Rel G' H' w' → V H'.length G' x v → Step H.length H'.length G w G' w' → K (a.put o.dst v) w') → wpOp P ops Q i K a w
theorem LStep.agree {i : Nat} {o : Oper} {e e2 : Env} {H H' : Heap} {x : AV} (h : LStep P N ops i o e H x H') (k : ∀ s ∈ o.looksAt ops, e2.get s = e.get s) : LStep P N ops i o e2 H x H' :=
  fun e' h' => h e' fun s hs => (h' s hs).trans (k s hs)
structure AStep (P : Program) (N : Fr) (ops : Array Oper) (loud : Nat → Bool) (i : Nat) (o : Oper) (e : Env) (H : Heap) (x : AV) (H' : Heap) : Prop where
  dst : dstOk N o.dst
  step : LStep P N ops i o e H x H'
  quiet : loud i = false → H' = H ∧ ∀ H2, LStep P N ops i o e H2 x H2
theorem AStep.agree {i : Nat} {o : Oper} {e e2 : Env} {H H' : Heap} {x : AV} (h : AStep P N ops loud i o e H x H') (k : ∀ s ∈ o.looksAt ops, e2.get s = e.get s) : AStep P N ops loud i o e2 H x H' :=
  ⟨h.dst, h.step.agree k, fun hq => ⟨(h.quiet hq).1, fun H2 => ((h.quiet hq).2 H2).agree k⟩⟩
theorem Env.put_get (e : Env) (d : Option Nat) (x : AV) (s : Nat) : (e.put d x).get s = if d = some s then x else e.get s := by
  cases d with
  | none => rfl
  | some d =>
    simp only [Env.put, Env.get, Option.some.injEq]
    by_cases h : s = d
    · subst h; simp
    · rw [if_neg h, if_neg (fun k => h k.symm)]
def AAny (P : Program) (N : Fr) (md : Region.Mode) (ops : Array Oper) (loud : Nat → Bool) (ef : Env) (Hf : Heap) : Nat → Array Bool → Env → Heap → Prop
  | 0, listed, e, H => Region.ready md ops listed = [] ∧ (∀ s, e.get s = ef.get s) ∧ H = Hf
  | fuel + 1, listed, e, H => (Region.ready md ops listed = [] → (∀ s, e.get s = ef.get s) ∧ H = Hf) ∧
    ∀ i ∈ Region.ready md ops listed, ∃ o x H', ops[i]? = some o ∧ AStep P N ops loud i o e H x H' ∧ AAny P N md ops loud ef Hf fuel (listed.setIfInBounds i true) (e.put o.dst x) H'
theorem AAny.congr {ef : Env} {Hf : Heap} : ∀ (fuel : Nat) (listed : Array Bool) (e e2 : Env) (H : Heap), (∀ s, e2.get s = e.get s) → AAny P N md ops loud ef Hf fuel listed e H → AAny P N md ops loud ef Hf fuel listed e2 H := by
  intro fuel
  induction fuel with
  | zero => intro listed e e2 H he h; exact ⟨h.1, fun s => (he s).trans (h.2.1 s), h.2.2⟩
  | succ fuel ih =>
    intro listed e e2 H he h
    refine ⟨fun h0 => ⟨fun s => (he s).trans ((h.1 h0).1 s), (h.1 h0).2⟩, fun i hi => ?_⟩
    obtain ⟨o, x, H', ho, hs, hk⟩ := h.2 i hi
    exact ⟨o, x, H', ho, hs.agree fun s _ => he s, ih _ _ _ _ (fun s => by rw [Env.put_get, Env.put_get, he s]) hk⟩
theorem AAny.sound {ef : Env} {Hf : Heap} {Q : Exit → Act → World → Prop} : ∀ (fuel : Nat) (listed : Array Bool) (e : Env) (H : Heap), AAny P N md ops loud ef Hf fuel listed e H →
    ∀ (G : Ghost) (a : Act) (w : World), Rel G H w → EnvRel N H.length G e a →
      (∀ G' a' w', Rel G' Hf w' → EnvRel N Hf.length G' ef a' → Step H.length Hf.length G w G' w' → Q .normal a' w') → wpAny P md ops Q fuel listed a w := by
  intro fuel
  have fin : ∀ {e : Env} {H : Heap}, (∀ s, e.get s = ef.get s) ∧ H = Hf → ∀ (G : Ghost) (a : Act) (w : World), Rel G H w → EnvRel N H.length G e a →
      (∀ G' a' w', Rel G' Hf w' → EnvRel N Hf.length G' ef a' → Step H.length Hf.length G w G' w' → Q .normal a' w') → Q .normal a w := by
    rintro e H ⟨he, rfl⟩ G a w hR hE hQ
    exact hQ G a w hR (hE.weaken fun s => .inr (he s).symm) (Step.refl _ _ _)
  induction fuel with
  | zero => intro listed e H h G a w hR hE hQ; exact ⟨h.1, fin h.2 G a w hR hE hQ⟩
  | succ fuel ih =>
    intro listed e H h G a w hR hE hQ
    refine ⟨fun h0 => fin (h.1 h0) G a w hR hE hQ, fun i hi => ?_⟩
    obtain ⟨o, x, H', ho, hs, hk⟩ := h.2 i hi
    refine hs.step e (fun _ _ => rfl) G a w _ _ hR hE fun G' v w' hR' hv hst => ?_
    exact ih _ _ _ hk G' _ w' hR' ((hE.mono hst.ext).putO hs.dst hv) fun G2 a2 w2 h1 h2 h3 => hQ G2 a2 w2 h1 h2 (hst.trans h3)

/-- What waits for operation k. -/
structure Waits (md : Region.Mode) (ops : Array Oper) (k : Nat) (D : List Nat) : Prop where
  on : ∀ j ∈ D, ∃ o, ops[j]? = some o ∧ ∃ e ∈ o.after, Region.binds md e = true ∧ (e.on = k ∨ e.on ∈ D)
theorem AAny.first {ef : Env} {Hf : Heap} {i : Nat} {oi : Oper} {D : List Nat} {x : AV} (hi : ops[i]? = some oi) (hD : Waits md ops i D) :
    ∀ (fuel : Nat) (listed : Array Bool) (e : Env) (H H' : Heap), (∀ j ∈ D, listed.getD j true = false) →
      (∀ j oj, ops[j]? = some oj → j ≠ i → listed.getD j true = false → j ∉ D → oi.apart ops oj = true ∧ (loud i = true → loud j = false)) →
      i ∈ Region.ready md ops listed → AStep P N ops loud i oi e H x H' →
      AAny P N md ops loud ef Hf fuel (listed.setIfInBounds i true) (e.put oi.dst x) H' → AAny P N md ops loud ef Hf (fuel + 1) listed e H := by
  intro fuel
  induction fuel with
  | zero =>
    intro listed e H H' _ _ hr hs hA
    refine ⟨fun h => (by rw [h] at hr; cases hr), fun j hj => ?_⟩
    by_cases hji : j = i
    · subst hji; exact ⟨oi, x, H', hi, hs, hA⟩
    · have := ready_mono hj hji
      rw [hA.1] at this
      cases this
  | succ fuel ih =>
    intro listed e H H' hun hfree hr hs hA
    refine ⟨fun h => (by rw [h] at hr; cases hr), fun j hj => ?_⟩
    by_cases hji : j = i
    · subst hji; exact ⟨oi, x, H', hi, hs, hA⟩
    · obtain ⟨oj, y, H2, hoj, hsj, hk⟩ := hA.2 j (ready_mono hj hji)
      obtain ⟨hjun, oj', hoj', hall⟩ := mem_ready.1 hj
      rw [hoj] at hoj'
      cases hoj'
      have hiun : listed.getD i false = false := by
        have h0 := (mem_ready.1 hr).1
        rcases Nat.lt_or_ge i listed.size with h' | h'
        · simp [h'] at h0 ⊢; exact h0
        · simp [Array.getElem?_eq_none h'] at h0
      have hjD : j ∉ D := by
        intro hjd
        obtain ⟨o', ho', ed, hed, hb, hon⟩ := hD.on j hjd
        rw [hoj] at ho'
        cases ho'
        have h1 := hall ed hed hb
        rcases hon with hon | hon
        · rw [hon, hiun] at h1; cases h1
        · have h2 := hun _ hon
          rcases Nat.lt_or_ge ed.on listed.size with h' | h'
          · simp [h'] at h1 h2; rw [h1] at h2; cases h2
          · simp [Array.getElem?_eq_none h'] at h2
      obtain ⟨hap, hld⟩ := hfree j oj hoj hji hjun hjD
      obtain ⟨a1, a2, a3⟩ := Oper.apart_spec hap
      have eqj : ∀ s ∈ oj.looksAt ops, e.get s = (e.put oi.dst x).get s := fun s hs' => by
        rw [Env.put_get, if_neg (fun k => a1 s k hs')]
      have eqi : ∀ s ∈ oi.looksAt ops, (e.put oj.dst y).get s = e.get s := fun s hs' => by
        rw [Env.put_get, if_neg (fun k => a3 s k hs')]
      have comm : ∀ s, ((e.put oj.dst y).put oi.dst x).get s = ((e.put oi.dst x).put oj.dst y).get s := fun s => by
        simp only [Env.put_get]
        by_cases h1 : oi.dst = some s
        · rw [if_pos h1, if_pos h1, if_neg (a2 s h1)]
        · rw [if_neg h1, if_neg h1]
      have hun' : ∀ j' ∈ D, (listed.setIfInBounds j true).getD j' true = false := fun j' hj' => by
        have hne : j ≠ j' := fun k => by subst k; exact hjD hj'
        rw [getD_set_ne true hne]; exact hun j' hj'
      have hfree' : ∀ k ok, ops[k]? = some ok → k ≠ i → (listed.setIfInBounds j true).getD k true = false → k ∉ D → oi.apart ops ok = true ∧ (loud i = true → loud k = false) := fun k ok hk' hki hun2 hkD => by
        refine hfree k ok hk' hki ?_ hkD
        by_cases hjk : j = k
        · subst hjk; exact hjun
        · rw [getD_set_ne true hjk] at hun2; exact hun2
      have hcomm : (listed.setIfInBounds i true).setIfInBounds j true = (listed.setIfInBounds j true).setIfInBounds i true := Array.setIfInBounds_comm _ _ (fun k => hji k.symm)
      cases hli : loud i with
      | false =>
        obtain ⟨rfl, hq⟩ := hs.quiet hli
        refine ⟨oj, y, H2, hoj, hsj.agree eqj, ih (listed.setIfInBounds j true) (e.put oj.dst y) H2 H2 hun' hfree' (ready_mono hr (Ne.symm hji)) ?_ ?_⟩
        · exact ⟨hs.dst, (hq H2).agree eqi, fun _ => ⟨rfl, fun H3 => (hq H3).agree eqi⟩⟩
        · rw [← hcomm]
          exact AAny.congr _ _ _ _ _ comm hk
      | true =>
        obtain ⟨rfl, hq⟩ := hsj.quiet (hld hli)
        refine ⟨oj, y, H, hoj, ⟨hsj.dst, (hq H).agree eqj, fun _ => ⟨rfl, fun H3 => (hq H3).agree eqj⟩⟩, ih (listed.setIfInBounds j true) (e.put oj.dst y) H H2 hun' hfree' (ready_mono hr (Ne.symm hji)) (hs.agree eqi) ?_⟩
        rw [← hcomm]
        exact AAny.congr _ _ _ _ _ comm hk

/-! ### The check -/
def waitsOf (md : Region.Mode) (ops : Array Oper) (k : Nat) : List Nat :=
  (List.range ops.size).foldl (fun D j => if ((ops[j]?).map fun o => o.after.any fun e => Region.binds md e && (e.on == k || D.contains e.on)).getD false then D ++ [j] else D) []
def waitsB (md : Region.Mode) (ops : Array Oper) (k : Nat) (D : List Nat) : Bool :=
  D.all fun j => ((ops[j]?).map fun o => o.after.any fun e => Region.binds md e && (e.on == k || D.contains e.on)).getD false
theorem waitsB_spec {k : Nat} {D : List Nat} (h : waitsB md ops k D = true) : Waits md ops k D := ⟨fun j hj => by
  have := List.all_eq_true.1 h j hj
  cases ho : ops[j]? with
  | none => rw [ho] at this; simp at this
  | some o =>
    rw [ho] at this
    simp only [Option.map_some, Option.getD_some, Array.any_eq_true'] at this
    obtain ⟨e, he, hb⟩ := this
    simp only [Bool.and_eq_true, Bool.or_eq_true, beq_iff_eq, List.contains_iff_mem] at hb
    exact ⟨o, rfl, e, he, hb.1, hb.2⟩⟩
def freeB (ops : Array Oper) (loud : Nat → Bool) (listed : Array Bool) (k : Nat) (D : List Nat) : Bool :=
  (D.all fun j => !listed.getD j true) && (List.range ops.size).all fun j => j == k || listed.getD j true || D.contains j ||
    (((ops[k]?).bind fun x => (ops[j]?).map fun y => x.apart ops y).getD false && !(loud k && loud j))
theorem freeB_spec {k : Nat} {ok : Oper} {listed : Array Bool} {D : List Nat} (hk : ops[k]? = some ok) (h : freeB ops loud listed k D = true) :
    (∀ j ∈ D, listed.getD j true = false) ∧ ∀ j oj, ops[j]? = some oj → j ≠ k → listed.getD j true = false → j ∉ D → ok.apart ops oj = true ∧ (loud k = true → loud j = false) := by
  simp only [freeB, Bool.and_eq_true, List.all_eq_true] at h
  refine ⟨fun j hj => by simpa using h.1 j hj, fun j oj hj hne hun hD => ?_⟩
  have hlt : j < ops.size := (Array.getElem?_eq_some_iff.1 hj).1
  have := h.2 j (List.mem_range.2 hlt)
  simp only [Bool.or_eq_true, Bool.and_eq_true, beq_iff_eq, List.contains_iff_mem, hk, hj, Option.bind_some, Option.map_some, Option.getD_some, Bool.not_eq_true', Bool.and_eq_false_iff] at this
  rcases this with ((h1 | h1) | h1) | ⟨h1, h2⟩
  · exact absurd h1 hne
  · rw [hun] at h1; cases h1
  · exact absurd h1 hD
  · exact ⟨h1, fun h3 => by rcases h2 with h2 | h2; · rw [h3] at h2; cases h2
                            · exact h2⟩
def tameFrom (md : Region.Mode) (ops : Array Oper) (loud : Nat → Bool) : Nat → Nat → Array Bool → Bool
  | 0, _, listed => (Region.ready md ops listed).isEmpty
  | fuel + 1, k, listed => (Region.ready md ops listed).contains k && waitsB md ops k (waitsOf md ops k) && freeB ops loud listed k (waitsOf md ops k) && tameFrom md ops loud fuel (k + 1) (listed.setIfInBounds k true)
/-- May a region's order be taken as it is listed? -/
def tame (ops : Array Oper) (loud : Nat → Bool) : Bool := tameFrom .any ops loud ops.size 0 (Array.replicate ops.size false)

/-- The listed order. -/
def Tr (P : Program) (N : Fr) (ops : Array Oper) (loud : Nat → Bool) (ef : Env) (Hf : Heap) : List Oper → Nat → Env → Heap → Prop
  | [], _, e, H => e = ef ∧ H = Hf
  | o :: rest, k, e, H => ∃ x H', AStep P N ops loud k o e H x H' ∧ Tr P N ops loud ef Hf rest (k + 1) (e.put o.dst x) H'
theorem AAny.listed {ef : Env} {Hf : Heap} : ∀ (l : List Oper) (k : Nat) (listed : Array Bool) (e : Env) (H : Heap), (∀ j, l[j]? = ops[k + j]?) →
    tameFrom md ops loud l.length k listed = true → Tr P N ops loud ef Hf l k e H → AAny P N md ops loud ef Hf l.length listed e H
  | [], _, _, _, _, _, hB, h => ⟨by simpa [tameFrom] using hB, fun s => by rw [h.1], h.2⟩
  | o :: l, k, listed, e, H, hl, hB, h => by
    have h0 : ops[k]? = some o := by simpa using (hl 0).symm
    simp only [List.length_cons, tameFrom, Bool.and_eq_true] at hB
    obtain ⟨⟨⟨hr, hw⟩, hf⟩, hB'⟩ := hB
    obtain ⟨x, H', hs, hk⟩ := h
    obtain ⟨f1, f2⟩ := freeB_spec h0 hf
    exact AAny.first h0 (waitsB_spec hw) l.length listed e H H' f1 f2 (by simpa using hr) hs
      (AAny.listed l (k + 1) _ _ _ (fun j => by have := hl (j + 1); simpa [Nat.add_assoc, Nat.add_comm 1 j] using this) hB' hk)
theorem awp_drawn {id : Nat} {l : List Oper} {e ef : Env} {H Hf : Heap} {Q : Post} (hm : P.follows .mixedOrders = true) (hB : tame l.toArray loud = true) (h : Tr P N l.toArray loud ef Hf l 0 e H) (k : Q .normal ef Hf) : AWP P N (.region id l.toArray true) e H Q := by
  intro G a w hR hE
  refine wp_region_any hm ?_
  have hA := AAny.listed (md := .any) l 0 (Array.replicate l.length false) e H (by simp) (by simpa [tame] using hB) h
  have hR' : Rel G H { w with drawn := w.drawn + 1 } := hR.drawn rfl
  have := AAny.sound (Q := Holds N G H.length w Q) _ _ _ _ hA G a { w with drawn := w.drawn + 1 } hR' hE fun G' a' w' h1 h2 h3 =>
    ⟨.normal, ef, Hf, G', trivial, k, h1, h2, ⟨h3.ext, h3.os, h3.tape, h3.output, h3.size⟩⟩
  simpa using this

/-! ### What an operation does, where it stands -/
section
variable {i : Nat} {o : Oper} {e : Env} {H H' : Heap} {x : AV} {loud : Nat → Bool}
theorem looksAt_op {e e' : Env} (h : ∀ s ∈ o.looksAt ops, e'.get s = e.get s) : ∀ y ∈ o.op.operands.toList, e'.ev y = e.ev y := by
  intro y hy
  cases y with
  | tmp t => exact h t (List.mem_append_left _ (List.mem_filterMap.2 ⟨.tmp t, hy, rfl⟩))
  | _ => rfl
theorem looksAt_guard {e e' : Env} {j : Nat} {b : Bool} (hg : o.guard = some (j, b)) (h : ∀ s ∈ o.looksAt ops, e'.get s = e.get s) : guardOf ops e' j b = guardOf ops e j b := by
  unfold guardOf
  cases hd : (ops[j]?).bind (·.dst) with
  | none => rfl
  | some d => simp only; rw [h d (by simp [Oper.looksAt, hg, hd])]
theorem lstep_exec (hi : ops[i]? = some o) (hg : o.guard = none) (hx : ∀ e' : Env, (∀ s ∈ o.looksAt ops, e'.get s = e.get s) → Exec P o e' H x H') : LStep P N ops i o e H x H' := by
  intro e' he G a w K Q hR hE hK
  unfold wpOp
  simp only [hi]
  rw [if_pos (by simp [Region.wanted, hg])]
  obtain ⟨r, v, w', G', hr, hrv, hv, hR', hs⟩ := hx e' he N G a w hR hE
  refine .inl ?_
  unfold Oper.wp
  rw [hr]
  rcases hrv with rfl | ⟨rfl, rfl⟩
  · exact hK G' v w' hR' hv hs
  · exact hK G' undef w' hR' hv hs
theorem lstep_guard {j : Nat} {b want : Bool} (hi : ops[i]? = some o) (hg : o.guard = some (j, b)) (hw : guardOf ops e j b = some want) (hx : want = true → ∀ e' : Env, (∀ s ∈ o.looksAt ops, e'.get s = e.get s) → Exec P o e' H x H) : LStep P N ops i o e H (if want = true then x else .tup []) H := by
  intro e' he G a w K Q hR hE hK
  unfold wpOp
  simp only [hi]
  rw [guard_wanted hg (by rw [looksAt_guard hg he]; exact hw) hE]
  cases want with
  | false =>
    rw [if_neg (by simp)]
    exact hK G undef w hR (by simpa using V_undef) (Step.refl _ _ _)
  | true =>
    rw [if_pos rfl]
    obtain ⟨r, v, w', G', hr, hrv, hv, hR', hs⟩ := hx rfl e' he N G a w hR hE
    refine .inl ?_
    unfold Oper.wp
    rw [hr]
    rcases hrv with rfl | ⟨rfl, rfl⟩
    · exact hK G' v w' hR' (by simpa using hv) hs
    · exact hK G' undef w' hR' (by simpa using hv) hs
theorem lstep_call {c : Call} {f : FuncId} {args : List AV} {r : AV} (hi : ops[i]? = some o) (hg : o.guard = none) (ho : o.op = .call c) (hc : calls e c = some (f, args)) (hf : DCall P f args H (.ret r) H') : LStep P N ops i o e H r H' := by
  intro e' he G a w K Q hR hE hK
  unfold wpOp
  simp only [hi]
  rw [if_pos (by simp [Region.wanted, hg])]
  have hc' : calls e' c = some (f, args) := by rw [← hc]; exact calls_congr fun y hy => looksAt_op he y (by rw [ho]; exact hy)
  obtain ⟨cargs, hrun, hs, hv⟩ := run_call ho hc' hf.1 hE w
  refine .inl ?_
  unfold Oper.wp
  rw [hrun, Oper.upon_enter]
  refine (hf.2 G w cargs hR hs hv).mono ?_
  rintro en w' ⟨G', hen', hR', hst⟩
  cases en with
  | returned v => exact hK G' v w' hR' hen' hst
  | panicked c => exact hen'.elim
  | outgrown => exact hen'.elim
theorem lstep_callG {c : Call} {f : FuncId} {args : List AV} {r : AV} {j : Nat} {b want : Bool} (hi : ops[i]? = some o) (hg : o.guard = some (j, b)) (hw : guardOf ops e j b = some want) (ho : o.op = .call c) (hc : want = true → calls e c = some (f, args) ∧ DCall P f args H (.ret r) H) : LStep P N ops i o e H (if want = true then r else .tup []) H := by
  intro e' he G a w K Q hR hE hK
  unfold wpOp
  simp only [hi]
  rw [guard_wanted hg (by rw [looksAt_guard hg he]; exact hw) hE]
  cases want with
  | false =>
    rw [if_neg (by simp)]
    exact hK G undef w hR (by simpa using V_undef) (Step.refl _ _ _)
  | true =>
    rw [if_pos rfl]
    obtain ⟨hc, hf⟩ := hc rfl
    have hc' : calls e' c = some (f, args) := by rw [← hc]; exact calls_congr fun y hy => looksAt_op he y (by rw [ho]; exact hy)
    obtain ⟨cargs, hrun, hs, hv⟩ := run_call ho hc' hf.1 hE w
    refine .inl ?_
    unfold Oper.wp
    rw [hrun, Oper.upon_enter]
    refine (hf.2 G w cargs hR hs hv).mono ?_
    rintro en w' ⟨G', hen', hR', hst⟩
    cases en with
    | returned v => exact hK G' v w' hR' (by rw [if_pos rfl]; exact hen') hst
    | panicked c => exact hen'.elim
    | outgrown => exact hen'.elim
theorem exec_agree {e e' : Env} (he : ∀ s ∈ o.looksAt ops, e'.get s = e.get s) (h : (aop P o.op e H).ok) : Exec P o e' H (aop P o.op e H).v (aop P o.op e H).H := by
  have hq := aop_congr (P := P) (H := H) (op := o.op) (e := e') (e' := e) (looksAt_op he)
  have := aop_sound (P := P) (H := H) (e := e') (o := o) rfl (by rw [hq]; exact h)
  rwa [hq] at this
end

/-! ### Many at a time -/
/-- What stands at a call of a region whose order is drawn. -/
def DGCall (P : Program) (N : Fr) (ops : Array Oper) (L : List Nat) (l : List Oper) (k : Nat) (e : GEnv) (H : Heap) (Z : Env → Heap → Prop) : Prop :=
  ∃ ef Hf ef', Tr P N ops L.contains ef Hf l k e.real H ∧ ef.le ef' ∧ Z ef' Hf
def dsops (P : Program) (N : Fr) (ops : Array Oper) (L : List Nat) : List Oper → Nat → GEnv → Heap → (Env → Heap → Prop) → Prop
  | [], _, e, H, Z => Z e.plain H
  | o :: rest, k, e, H, Z =>
    if isCall o.op = true then DGCall P N ops L (o :: rest) k e H Z
    else match o.guard with
      | none => dstOk N o.dst ∧ gops e o.op ∧ (aop P o.op e.raw H).ok ∧
        (L.contains k = false → (aop P o.op e.raw H).H = H ∧ ∀ H2, (aop P o.op e.raw H2).ok ∧ (aop P o.op e.raw H2).v = (aop P o.op e.raw H).v ∧ (aop P o.op e.raw H2).H = H2) ∧
        dsops P N ops L rest (k + 1) (e.put o.dst (.p (aop P o.op e.raw H).v)) (aop P o.op e.raw H).H Z
      | some (j, b) => match gguard ops e j b with
        | some want => dstOk N o.dst ∧ (want = true → gops e o.op ∧ (aop P o.op e.raw H).ok) ∧ (aop P o.op e.raw H).H = H ∧
          (L.contains k = false → ∀ H2, (want = true → (aop P o.op e.raw H2).ok) ∧ (aop P o.op e.raw H2).v = (aop P o.op e.raw H).v ∧ (aop P o.op e.raw H2).H = H2) ∧
          dsops P N ops L rest (k + 1) (e.put o.dst (.c want (aop P o.op e.raw H).v)) H Z
        | none => False
theorem dsops_sound {L : List Nat} {Z : Env → Heap → Prop} : ∀ (l : List Oper) (k : Nat) (e : GEnv) (H : Heap), (∀ j, l[j]? = ops[k + j]?) → dsops P N ops L l k e H Z → DGCall P N ops L l k e H Z := by
  intro l
  induction l with
  | nil => intro k e H _ h; exact ⟨e.real, H, e.plain, ⟨rfl, rfl⟩, e.plain_le, h⟩
  | cons o l ih =>
    intro k e H hl h
    have h0 : ops[k]? = some o := by simpa using (hl 0).symm
    have hl' : ∀ j, l[j]? = ops[k + 1 + j]? := fun j => by have := hl (j + 1); simpa [Nat.add_assoc, Nat.add_comm 1 j] using this
    unfold dsops at h
    split at h
    · exact h
    · split at h
      · rename_i hg
        obtain ⟨h1, h2, h3, hq, h4⟩ := h
        obtain ⟨ef, Hf, ef', ht, hle, hz⟩ := ih _ _ _ hl' h4
        rw [GEnv.put_real] at ht
        have real : ∀ H2, (aop P o.op e.raw H2).ok → LStep P N ops k o e.real H2 (aop P o.op e.raw H2).v (aop P o.op e.raw H2).H := fun H2 hok => by
          obtain ⟨r1, r2, r3⟩ := aop_real (P := P) (H := H2) h2
          refine lstep_exec h0 hg fun e' he => ?_
          have := exec_agree (P := P) (H := H2) he (by rw [r1]; exact hok)
          rwa [r2, r3] at this
        refine ⟨ef, Hf, ef', ⟨_, _, ⟨h1, real H h3, fun hlk => ⟨(hq hlk).1, fun H2 => ?_⟩⟩, ht⟩, hle, hz⟩
        obtain ⟨q1, q2, q3⟩ := (hq hlk).2 H2
        have := real H2 q1
        rwa [q2, q3] at this
      · rename_i j b hg
        split at h
        · rename_i want hw
          obtain ⟨h1, h2, h3, hq, h4⟩ := h
          obtain ⟨ef, Hf, ef', ht, hle, hz⟩ := ih _ _ _ hl' h4
          rw [GEnv.put_real] at ht
          have real : ∀ H2, (want = true → (aop P o.op e.raw H2).ok) → (aop P o.op e.raw H2).H = H2 → LStep P N ops k o e.real H2 (if want = true then (aop P o.op e.raw H2).v else .tup []) H2 := fun H2 hok hHH => by
            refine lstep_guard h0 hg (gguard_real hw) fun hwt e' he => ?_
            obtain ⟨r1, r2, r3⟩ := aop_real (P := P) (H := H2) (h2 hwt).1
            have := exec_agree (P := P) (H := H2) he (by rw [r1]; exact hok hwt)
            rwa [r2, r3, hHH] at this
          refine ⟨ef, Hf, ef', ⟨_, _, ⟨h1, real H (fun k => (h2 k).2) h3, fun hlk => ⟨rfl, fun H2 => ?_⟩⟩, ht⟩, hle, hz⟩
          obtain ⟨q1, q2, q3⟩ := hq hlk H2
          have := real H2 q1 q3
          rwa [q2] at this
        · exact h.elim
section
variable {L : List Nat} {Z : Env → Heap → Prop} {o : Oper} {rest : List Oper} {k : Nat} {H H' : Heap}
/-- A call that leaves all as it is. -/
theorem dgcallP {c : Call} {f : FuncId} {args : List AV} {r : AV} {e : GEnv} (h0 : ops[k]? = some o) (hl : ∀ j, rest[j]? = ops[k + 1 + j]?) (hg : o.guard = none) (ho : o.op = .call c) (hd : dstOk N o.dst) (hk : gcallOk e c = true) (hc : calls e.raw c = some (f, args)) (hf : PureFn P f args r) (kk : dsops P N ops L rest (k + 1) (e.put o.dst (.p r)) H Z) : DGCall P N ops L (o :: rest) k e H Z := by
  obtain ⟨ef, Hf, ef', ht, hle, hz⟩ := dsops_sound _ _ _ _ hl kk
  rw [GEnv.put_real] at ht
  have hc' : calls e.real c = some (f, args) := by rw [gcalls_eq hk]; exact hc
  exact ⟨ef, Hf, ef', ⟨_, _, ⟨hd, lstep_call h0 hg ho hc' (hf H), fun _ => ⟨rfl, fun H2 => lstep_call h0 hg ho hc' (hf H2)⟩⟩, ht⟩, hle, hz⟩
theorem dgcallG {c : Call} {f : FuncId} {args : List AV} {r : AV} {j : Nat} {b want : Bool} {e : GEnv} (h0 : ops[k]? = some o) (hl : ∀ j, rest[j]? = ops[k + 1 + j]?) (hg : o.guard = some (j, b)) (hw : gguard ops e j b = some want) (ho : o.op = .call c) (hd : dstOk N o.dst) (hc : calls e.raw c = some (f, args)) (hf : PureFn P f args r) (hk : want = true → gcallOk e c = true) (kk : dsops P N ops L rest (k + 1) (e.put o.dst (.c want r)) H Z) : DGCall P N ops L (o :: rest) k e H Z := by
  obtain ⟨ef, Hf, ef', ht, hle, hz⟩ := dsops_sound _ _ _ _ hl kk
  rw [GEnv.put_real] at ht
  have one : ∀ H2, LStep P N ops k o e.real H2 (if want = true then r else .tup []) H2 := fun H2 => lstep_callG h0 hg (gguard_real hw) ho fun h => ⟨by rw [gcalls_eq (hk h)]; exact hc, hf H2⟩
  exact ⟨ef, Hf, ef', ⟨_, _, ⟨hd, one H, fun _ => ⟨rfl, one⟩⟩, ht⟩, hle, hz⟩
/-- A call that is loud. -/
theorem dgcall {c : Call} {f : FuncId} {args : List AV} {r : AV} {e : GEnv} (h0 : ops[k]? = some o) (hl : ∀ j, rest[j]? = ops[k + 1 + j]?) (hg : o.guard = none) (ho : o.op = .call c) (hd : dstOk N o.dst) (hk : gcallOk e c = true) (hL : L.contains k = true) (hc : calls e.raw c = some (f, args)) (hf : DCall P f args H (.ret r) H') (kk : dsops P N ops L rest (k + 1) (e.put o.dst (.p r)) H' Z) : DGCall P N ops L (o :: rest) k e H Z := by
  obtain ⟨ef, Hf, ef', ht, hle, hz⟩ := dsops_sound _ _ _ _ hl kk
  rw [GEnv.put_real] at ht
  have hc' : calls e.real c = some (f, args) := by rw [gcalls_eq hk]; exact hc
  exact ⟨ef, Hf, ef', ⟨_, _, ⟨hd, lstep_call h0 hg ho hc' hf, fun h => by rw [hL] at h; cases h⟩, ht⟩, hle, hz⟩
end
/-- A region whose order is drawn; what comes behind is hidden. L: the operations that touch, or look at, what is not a slot. -/
theorem awp_drawn_k (L : List Nat) {id : Nat} {l : List Oper} {e : Env} {H : Heap} {Q : Post} (hm : P.follows .mixedOrders = true) (hB : tame l.toArray L.contains = true) (h : ∀ X : Env → Heap → Prop, (∀ e H, Q .normal e H → X e H) → dsops P N l.toArray L l 0 (ofEnv e) H X) : AWP P N (.region id l.toArray true) e H Q := by
  obtain ⟨ef, Hf, ef', ht, hle, hz⟩ := dsops_sound _ _ _ _ (by simp) (h (fun e H => Q .normal e H) fun _ _ k => k)
  rw [ofEnv_real] at ht
  have := awp_drawn (id := id) (Q := fun x e H => ∃ e', e.le e' ∧ Q x e' H) hm hB ht ⟨ef', hle, hz⟩
  intro G a w hR hE
  refine wp_mono (this G a w hR hE) ?_
  rintro x a' w' ⟨ax, e2, H2, G2, hx, ⟨e3, hle3, hq⟩, hR2, hE2, hs2⟩
  exact ⟨ax, e3, H2, G2, hx, hq, hR2, hE2.weaken hle3, hs2⟩

end Go.Ab
end
