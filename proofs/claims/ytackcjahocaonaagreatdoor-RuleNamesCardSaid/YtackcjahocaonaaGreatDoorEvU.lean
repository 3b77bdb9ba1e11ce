/- A part of a proof: rules for reading Go code as code over plain values, and what follows for this program. Its conditions stand in each statement. -/
import Derived.Test.YtackcjahocaonaaGreatDoorEvN
section
set_option linter.unusedSimpArgs false
set_option linter.unusedVariables false
/-! Operations, one behind the other: guarded or not, calls with some ends. -/
namespace Go.Ab
variable {P : Program} {N : Fr} {ops : Array Oper} {rest : List Oper} {o : Oper} {e : Env} {H : Heap} {Q : Post}
/-- Is an operation to be done? -/
def Want (ops : Array Oper) (o : Oper) (e : Env) (b : Bool) : Prop := (o.guard = none ∧ b = true) ∨ ∃ j q, o.guard = some (j, q) ∧ guardOf ops e j q = some b
theorem Want.wanted {n : Nat} {G : Ghost} {a : Act} {b : Bool} (h : Want ops o e b) (hE : EnvRel N n G e a) : Region.wanted o (yielded ops a.tmps) = b := by
  rcases h with ⟨h, rfl⟩ | ⟨j, q, h1, h2⟩
  · simp [Region.wanted, h]
  · exact guard_wanted h1 h2 hE
theorem Want.agree {e' : Env} {b : Bool} (h : Want ops o e b) (k : ∀ s ∈ o.looksAt ops, e'.get s = e.get s) : Want ops o e' b := by
  rcases h with h | ⟨j, q, h1, h2⟩
  · exact .inl h
  · exact .inr ⟨j, q, h1, by rw [looksAt_guard h1 k]; exact h2⟩
theorem sops_skip (hw : Want ops o e false) (hd : dstOk N o.dst) (k : SOPS P N ops rest (e.put o.dst (.tup [])) H Q) : SOPS P N ops (o :: rest) e H Q := by
  intro G a w hR hE
  refine wpList_step fun K hK => ?_
  rw [hw.wanted hE, if_neg (by simp)]
  exact hK _ _ (k G (a.put o.dst undef) w hR (hE.putO hd V_undef))
theorem sops_nexec {l : List (AV × Heap)} (hw : Want ops o e true) (hd : dstOk N o.dst) (hx : NExec P o e H l) (k : ∀ y ∈ l, SOPS P N ops rest (e.put o.dst y.1) y.2 Q) : SOPS P N ops (o :: rest) e H Q := by
  intro G a w hR hE
  refine wpList_step fun K hK => ?_
  rw [hw.wanted hE, if_pos rfl]
  obtain ⟨y, hy, r, v, w', G', hr, hrv, hv, hR', hs⟩ := hx N G a w hR hE
  have hk := wpList_mono (fun _ _ _ => Holds.trans hs) _ _ _ (k y hy G' (a.put o.dst v) w' hR' ((hE.mono hs.ext).putO hd hv))
  unfold Oper.wp
  rw [hr]
  rcases hrv with rfl | ⟨rfl, rfl⟩
  · exact hK _ _ hk
  · exact hK _ _ hk
theorem sops_panic {x : Operand} {t : TypeId} {v : AV} (ho : o.op = .panic x) (hw : Want ops o e true) (hx : e.ev x = .iface t v) (k : Q (.panic (.iface t v)) e H) : SOPS P N ops (o :: rest) e H Q := by
  intro G a w hR hE
  refine wpList_step fun K hK => ?_
  rw [hw.wanted hE, if_pos rfl]
  have h := hE.ev x
  rw [hx] at h
  have h0 := h
  simp only [V] at h
  obtain ⟨u, hu, _⟩ := h
  have hrun : (execOp a.eval o).run P w = .halt (.panic (a.eval x)) w := by
    simp only [execOp, ho, hu, Instr.panic, goPanic]
    rfl
  unfold Oper.wp
  rw [hrun]
  exact ⟨.panic (.iface t v), e, H, G, ⟨rfl, rfl, h0⟩, k, hR, hE, Step.refl _ _ _⟩
/-- A call that may end in some ways. -/
def NCall (P : Program) (f : FuncId) (args : List AV) (H : Heap) (ends : List (AEnd × Heap)) : Prop :=
  P.enters f = true ∧ ∀ (G : Ghost) (w : World) (cargs : Array Value), Rel G H w → cargs.size = args.length → Vcells H.length G args cargs 0 →
    Calls P f cargs w fun en w' => ∃ y ∈ ends, ∃ G', ERel y.2.length G' y.1 en ∧ Rel G' y.2 w' ∧ Step H.length y.2.length G w G' w'
theorem DCall.toN {f : FuncId} {args : List AV} {r : AEnd} {H' : Heap} (h : DCall P f args H r H') : NCall P f args H [(r, H')] :=
  ⟨h.1, fun G w cargs hR hs hv => (h.2 G w cargs hR hs hv).mono fun _ _ k => ⟨_, List.mem_singleton_self _, k⟩⟩
theorem NCall.toD {f : FuncId} {args : List AV} {r : AEnd} {H' : Heap} (h : NCall P f args H [(r, H')]) : DCall P f args H r H' :=
  ⟨h.1, fun G w cargs hR hs hv => (h.2 G w cargs hR hs hv).mono fun _ _ ⟨y, hy, k⟩ => by
    rw [List.mem_singleton] at hy
    subst hy
    exact k⟩
theorem sops_ncall {c : Call} {f : FuncId} {args : List AV} {ends : List (AEnd × Heap)} (ho : o.op = .call c) (hw : Want ops o e true) (hd : dstOk N o.dst) (hc : calls e c = some (f, args)) (hf : NCall P f args H ends)
    (k : ∀ y ∈ ends, match y.1 with | .ret r => SOPS P N ops rest (e.put o.dst r) y.2 Q | .panic x => Q (.panic x) e y.2) : SOPS P N ops (o :: rest) e H Q := by
  intro G a w hR hE
  refine wpList_step fun K hK => ?_
  rw [hw.wanted hE, if_pos rfl]
  obtain ⟨cargs, hrun, hs, hv⟩ := run_call ho hc hf.1 hE w
  unfold Oper.wp
  rw [hrun, Oper.upon_enter]
  refine (hf.2 G w cargs hR hs hv).mono ?_
  rintro en w' ⟨y, hy, G', hen', hR', hst⟩
  have hk := k y hy
  obtain ⟨y1, y2⟩ := y
  cases en with
  | returned v =>
    cases y1 with
    | ret r => exact hK _ _ (wpList_mono (fun _ _ _ => Holds.trans hst) _ _ _ (hk G' (a.put o.dst v) w' hR' ((hE.mono hst.ext).putO hd hen')))
    | panic x => exact hen'.elim
  | panicked c =>
    cases y1 with
    | ret r => exact hen'.elim
    | panic x =>
      match c, hen' with
      | [c], hen' => exact ⟨.panic x, e, y2, G', hen', hk, hR', hE.mono hst.ext, hst⟩
  | outgrown => cases y1 <;> exact hen'.elim
section
variable {i : Nat} {H' : Heap} {x : AV}
theorem lstep_want (hi : ops[i]? = some o) (hw : Want ops o e true) (hx : ∀ e' : Env, (∀ s ∈ o.looksAt ops, e'.get s = e.get s) → Exec P o e' H x H') : LStep P N ops i o e H x H' := by
  intro e' he G a w K Q hR hE hK
  unfold wpOp
  simp only [hi]
  rw [(hw.agree he).wanted hE, if_pos rfl]
  obtain ⟨r, v, w', G', hr, hrv, hv, hR', hs⟩ := hx e' he N G a w hR hE
  refine .inl ?_
  unfold Oper.wp
  rw [hr]
  rcases hrv with rfl | ⟨rfl, rfl⟩
  · exact hK G' v w' hR' hv hs
  · exact hK G' undef w' hR' hv hs
theorem lstep_skip (hi : ops[i]? = some o) (hw : Want ops o e false) : LStep P N ops i o e H (.tup []) H := by
  intro e' he G a w K Q hR hE hK
  unfold wpOp
  simp only [hi]
  rw [(hw.agree he).wanted hE, if_neg (by simp)]
  exact hK G undef w hR V_undef (Step.refl _ _ _)
theorem lstep_ncall {c : Call} {f : FuncId} {args : List AV} {r : AV} (hi : ops[i]? = some o) (hw : Want ops o e true) (ho : o.op = .call c) (hc : calls e c = some (f, args)) (hf : DCall P f args H (.ret r) H') : LStep P N ops i o e H r H' := by
  intro e' he G a w K Q hR hE hK
  unfold wpOp
  simp only [hi]
  rw [(hw.agree he).wanted hE, if_pos rfl]
  have hc' : calls e' c = some (f, args) := by rw [← hc]; exact calls_congr fun y hy => looksAt_op he y (by rw [ho]; exact hy)
  obtain ⟨cargs, hrun, hs, hv⟩ := run_call ho hc' hf.1 hE w
  refine .inl ?_
  unfold Oper.wp
  rw [hrun, Oper.upon_enter]
  refine (hf.2 G w cargs hR hs hv).mono ?_
  rintro en w' ⟨G', hen', hR', hst⟩
  cases en with
  | returned v => exact hK G' v w' hR' hen' hst
  | panicked c => exact hen'.elim
  | outgrown => exact hen'.elim
end
/-! ### Less is known behind code -/
def Shr (n0 : Nat) (x : AX) (e1 : Env) (H1 : Heap) (e3 : Env) (H3 : Heap) : Prop := e1.le e3 ∧ (H3 = H1 ∨ (n0 ≤ H3.length ∧ (∃ L, H1 = H3 ++ L) ∧ (∀ s, (e3.get s).under H3.length) ∧ (∀ o ∈ H3, o.under H3.length) ∧ ∀ y, x ≠ .panic y))
theorem Shr.same {n0 : Nat} {x : AX} {e1 : Env} {H1 : Heap} : Shr n0 x e1 H1 e1 H1 := ⟨fun _ => .inr rfl, .inl rfl⟩
theorem Shr.use {n0 n1 : Nat} {x : AX} {e1 e3 : Env} {H1 H3 : Heap} (h : Shr n0 x e1 H1 e3 H3) {G0 G G1 : Ghost} {w0 w w1 : World} {a : Act} {X : Exit} (hx : XRel H1.length G x X) (hR : Rel G H1 w) (hE : EnvRel N H1.length G e1 a) (hs : Step n0 H1.length G0 w0 G w) :
    XRel H3.length G x X ∧ Rel G H3 w ∧ EnvRel N H3.length G e3 a ∧ Step n0 H3.length G0 w0 G w := by
  obtain ⟨hee, rfl | ⟨hle, ⟨L, rfl⟩, hu, huo, hp⟩⟩ := h
  · exact ⟨hx, hR, hE.weaken hee, hs⟩
  · refine ⟨?_, hR.drop huo, (hE.weaken hee).lower hu, hs.lower hle⟩
    cases x with
    | panic y => exact absurd rfl (hp y)
    | _ => cases X <;> exact hx
/-! ### Loops -/
/-- At the head of a loop's round. -/
def LoopAt (P : Program) (N : Fr) (c : Code) (n0 : Nat) (e : Env) (H : Heap) (Q : Post) : Prop :=
  ∀ (G0 : Ghost) (w0 : World) (G : Ghost) (a : Act) (w : World), Rel G H w → EnvRel N H.length G e a → Step n0 H.length G0 w0 G w →
    ∀ (b : Frame) (k : List Item) (cs : List Frame), ∃ x a' w', Holds N G0 n0 w0 Q x a' w' ∧ Arrives P (lone (b.at a (.code c :: .inLoop c :: k)) cs w) b k cs x a' w'
theorem LoopAt.awp {c : Code} (h : LoopAt P N c H.length e H Q) : AWP P N (.loop c) e H Q := by
  intro G a w hR hE b k cs
  obtain ⟨x, a', w', hq, harr⟩ := h G w G a w hR hE (Step.refl _ _ _) b k cs
  exact ⟨x, a', w', hq, .of_steps (.one step_loop) harr⟩
theorem LoopAt.round {c : Code} {n0 : Nat} (h : AWP P N c e H fun x e1 H1 => ∃ e3 H3, Shr n0 x e1 H1 e3 H3 ∧ match x with | .normal => LoopAt P N c n0 e3 H3 Q | x => Q x e3 H3) : LoopAt P N c n0 e H Q := by
  intro G0 w0 G a w hR hE hs b k cs
  obtain ⟨x, a2, w2, ⟨ax, e2, H2, G2, hx, hq, hR2, hE2, hs2⟩, harr⟩ := h G a w hR hE b (.inLoop c :: k) cs
  obtain ⟨e3, H3, hshr, hq⟩ := hq
  obtain ⟨hx, hR3, hE3, hs3⟩ := hshr.use (n1 := 0) (w1 := w) (G1 := G) hx hR2 hE2 (hs.trans hs2)
  cases x with
  | normal =>
    cases ax <;> simp only [XRel] at hx
    obtain ⟨x', a', w', hq', harr'⟩ := hq G0 w0 G2 a2 w2 hR3 hE3 hs3 b k cs
    exact ⟨x', a', w', hq', .of_steps (Steps.trans harr (.one step_inLoop)) harr'⟩
  | exit i =>
    cases ax <;> simp only [XRel] at hx
    subst hx
    exact ⟨.exit _, a2, w2, ⟨.exit _, e3, H3, G2, rfl, hq, hR3, hE3, hs3⟩, .pass (x := .inLoop c) rfl (fun _ _ => .inl (by simp)) harr⟩
  | goto i =>
    cases ax <;> simp only [XRel] at hx
    subst hx
    exact ⟨.goto _, a2, w2, ⟨.goto _, e3, H3, G2, rfl, hq, hR3, hE3, hs3⟩, .pass (x := .inLoop c) rfl (fun _ _ => .inl (by simp)) harr⟩
  | ret =>
    cases ax <;> simp only [XRel] at hx
    exact ⟨.ret, a2, w2, ⟨.ret, e3, H3, G2, trivial, hq, hR3, hE3, hs3⟩, .pass (x := .inLoop c) rfl (fun _ _ => .inl (by simp)) harr⟩
  | panic ch =>
    cases ax with
    | panic y => exact ⟨.panic ch, a2, w2, ⟨.panic y, e3, H3, G2, hx, hq, hR3, hE3, hs3⟩, .pass (x := .inLoop c) rfl (fun _ _ => .inl (by simp)) harr⟩
    | _ => exact hx.elim
  | outgrown => cases ax <;> simp only [XRel] at hx
end Go.Ab
end
