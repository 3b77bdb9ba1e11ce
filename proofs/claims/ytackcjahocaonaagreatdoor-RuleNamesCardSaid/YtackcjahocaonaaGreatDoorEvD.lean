/- A part of a proof: rules for reading Go code as code over plain values, and what follows for this program. Its conditions stand in each statement. -/
import Derived.Test.YtackcjahocaonaaGreatDoorEvY
import Derived.Recover
section
set_option linter.unusedSimpArgs false
set_option linter.unusedVariables false
/-! A function that first defers a closure which recovers. -/
namespace Go.Ab
variable {P : Program}
def RetOk (P : Program) (fn : Func) (H : Heap) (e1 : Env) (H1 : Heap) (v : AV) (H2 : Heap) : Prop :=
  ∃ v0, resAV P fn.results.toList e1 H1 = some v0 ∧ ((v = v0 ∧ H2 = H1) ∨ (H2.length = H.length ∧ ∀ G w u, Rel G H1 w → V H1.length G v0 u → ∃ G', V H2.length G' v u ∧ Rel G' H2 w ∧ Ext H1.length H1.length G G'))
theorem RetOk.run {fn : Func} {H : Heap} {e1 : Env} {H1 : Heap} {v : AV} {H2 : Heap} (h : RetOk P fn H e1 H1 v H2) {G G1 : Ghost} {w w1 : World} {a : Act} {N : Fr} (hR : Rel G1 H1 w1) (hE : EnvRel N H1.length G1 e1 a) (hst : Step H.length H1.length G w G1 w1) :
    ∃ u, (results fn a.tmps).run P w1 = .ok u w1 ∧ ∃ G', V H2.length G' v u ∧ Rel G' H2 w1 ∧ Step H.length H2.length G w G' w1 := by
  obtain ⟨v0, h1, h2⟩ := h
  obtain ⟨u, hu, hv⟩ := run_results (P := P) hR hE h1
  refine ⟨u, hu, ?_⟩
  rcases h2 with ⟨rfl, rfl⟩ | ⟨hl, h2⟩
  · exact ⟨G1, hv, hR, hst⟩
  · obtain ⟨G2, k1, k2, k3⟩ := h2 G1 w1 u hR hv
    exact ⟨G2, k1, k2, (hst.trans ⟨k3, rfl, rfl, rfl, Nat.le_refl _⟩).lower (by rw [hl]; exact Nat.le_refl _)⟩
theorem run_defer {o : Oper} {c : Call} {a : Act} {s : Nat} {g : FuncId} {cap : Array Value} {ts : Array TypeId} (ho : o.op = .defer { callee := .value (.tmp s), args := #[], argTypes := ts }) (hv : a.eval (.tmp s) = .func (.func g) #[] cap) (w : World) :
    (execOp a.eval o).run P w = .ok (.defer ⟨.fn (.func g) cap, #[]⟩) w := by
  simp only [execOp, ho, resolve, bindRun, hv, Deferred.ofValue, pureRun]
  simp
theorem run_recover {o : Oper} {a : Act} {ts : Array TypeId} (ho : o.op = .call { callee := .builtin .recover, args := #[], argTypes := ts }) (w : World) :
    (execOp a.eval o).run P w = .ok .recover w := by
  simp only [execOp, ho, resolve, bindRun]
  rfl
theorem recOf_panic {x rv : AV} (h : recOf (.panic x) = some rv) : rv = x := by cases x <;> simp_all [recOf]
theorem ncall_defer {f : FuncId} {fn : Func} {c : FnC} {d : DfC} {args : List AV} {H : Heap} {ends : List (AEnd × Heap)} {Q1 : Env → Heap → Prop} (hf : P.funcs[f]? = some fn) (hen : P.enters f = true) (hn : args.length ≤ fn.ntmps) (hN : fn.ntmps = c.ntmps) (hd : DfOk P fn c d)
    (h1 : AWP P fn.ntmps d.pre (argEnv 0 args) H (fun x e1 H1 => x = .normal ∧ Q1 e1 H1))
    (h2 : ∀ e1 H1, Q1 e1 H1 → ∀ ds, AWP P ⟨fn.ntmps, ds⟩ d.rest (e1.put (some d.s) (.func (.func d.g) [] (d.cap.map e1.ev))) H1 (fun x e2 H2 => ∃ rv, recOf x = some rv ∧
      AWP P d.gn d.grest ((argEnv 0 (d.cap.map e1.ev)).put (some d.r) rv) H2 (fun y e3 H3 => (y = .normal ∨ y = .ret) ∧ ∃ v H4, (AEnd.ret v, H4) ∈ ends ∧ RetOk P fn H e2 H3 v H4))) : NCall P f args H ends := by
  obtain ⟨i1, i2, mk, df, gn, rc, hb, hmg, hdg, hdd, hmo, hmd, ⟨ts, hdo⟩, hs1, _, _, hgf, hge, hgn, hgr, hgb, hrg, hrd, hr1, hcl, ⟨ts2, hro⟩, _⟩ := hd
  refine ⟨hen, fun G w cargs hR hs hc => calls_of_wp_defers hf hb ?_⟩
  refine wp_seq (wp_mono (h1 G _ w hR (.start hs hc hn)) ?_)
  rintro x a1 w1 ⟨ax, e1, H1, G1, hx, ⟨rfl, hq1⟩, hR1, hE1, hst1⟩
  cases x <;> simp only [XRel] at hx
  show (Code.seq _ _).wp P _ a1 w1
  refine wp_seq ?_
  have hl : (Code.region i1 #[mk, df] false) = .region i1 [mk, df].toArray false := rfl
  rw [hl]
  refine wp_region_lit (wpList_plain hmg fun K hK => ?_)
  obtain ⟨r, v, w2, G2, hr, hrv, hv, hR2, hs2⟩ := exec_makeFunc (P := P) (o := mk) (e := e1) (H := H1) hmo _ G1 a1 w1 hR1 hE1
  have hE2 : EnvRel fn.ntmps H1.length G2 (e1.put mk.dst (.func (.func d.g) [] (d.cap.map e1.ev))) (a1.put mk.dst v) :=
    (hE1.mono hs2.ext).putO (by rw [hmd]; show d.s < fn.ntmps; rw [hN]; exact hs1) (by simpa using hv)
  have hmk : r = .value v ∨ (r = .skip ∧ v = undef) := hrv
  have hk : K (a1.put mk.dst v) w2 := by
    refine hK _ _ ?_
    refine wpList_plain hdg fun K2 hK2 => ?_
    rw [hmd] at hE2
    have hfv := hE2.ev (.tmp d.s)
    have hev : (e1.put (some d.s) (.func (.func d.g) [] (d.cap.map e1.ev))).ev (.tmp d.s) = .func (.func d.g) [] (d.cap.map e1.ev) := by simp [Env.ev, Env.put, Env.get]
    rw [hev] at hfv
    simp only [V] at hfv
    obtain ⟨fs, cs, hfv, hf0, hc0, _, hcv⟩ := hfv
    have hfs : fs = #[] := Array.eq_empty_of_size_eq_zero (by simpa using hf0)
    subst hfs
    rw [hmd]
    unfold Oper.wp
    rw [run_defer (c := default) hdo hfv, Oper.upon_defer, hdd]
    refine hK2 _ _ (wpList_nil ?_)
    have hE3 : EnvRel ⟨fn.ntmps, [⟨.fn (.func d.g) cs, #[]⟩]⟩ H1.length G2 (e1.put (some d.s) (.func (.func d.g) [] (d.cap.map e1.ev))) (Act.put { a1.put (some d.s) v with defers := ⟨.fn (.func d.g) cs, #[]⟩ :: (a1.put (some d.s) v).defers } none undef) :=
      ⟨hE2.size, by show _ :: _ = _; rw [hE2.defers], hE2.slot⟩
    show Code.wp P d.rest _ _ _
    refine wp_mono (h2 e1 H1 hq1 _ G2 _ w2 (by simpa using hR2) (by simpa using hE3)) ?_
    rintro x4 a4 w4 ⟨ax4, e4, H4, G4, hx4, ⟨rv, hrv4, hg⟩, hR4, hE4, hst4⟩
    have hst04 : Step H.length H4.length G w G4 w4 := hst1.trans (hs2.trans (by simpa using hst4))
    have hcv4 : Vcells H4.length G4 (d.cap.map e1.ev) cs 0 := Vcells.mono (by simpa using hst4.ext) _ _ _ hcv
    have key : ∀ (u u2 : FrameMode) (rvv : Value), u ≠ .run → (∀ (c₀ : Frame) (fr : List Frame), c₀.mode = u → (recoverD (c₀ :: fr) = none ∧ rvv = .nilIface ∧ u2 = u) ∨ recoverD (c₀ :: fr) = some (rvv, { c₀ with mode := u2 } :: fr)) → settle u2 = .returning → V H4.length G4 rv rvv →
        Go.Leaves P fn a4.tmps (fun en w' => ∃ y ∈ ends, ∃ G', ERel y.2.length G' y.1 en ∧ Rel G' y.2 w' ∧ Step H.length y.2.length G w G' w') [⟨.fn (.func d.g) cs, #[]⟩] u w4 := by
      intro u u2 rvv hu hrec hset hvv
      refine ⟨hu, .func d.g, cs, d.g, #[] ++ cs, rfl, by simp only [invoke]; exact run_callFunc hge w4, callsD_of_wpS hgf hgb fun c₀ fr hm => ?_⟩
      refine wpS_seq (wpS_region ?_)
      have hE5 : EnvRel gn.ntmps H4.length G4 (argEnv 0 (d.cap.map e1.ev)) { tmps := (#[] ++ cs) ++ Array.replicate (gn.ntmps - (#[] ++ cs).size) undef, defers := [] } :=
        .start (by simpa using hc0) (by simpa using hcv4) (by rw [hgn]; simpa using hcl)
      have hE6 := hE5.putO (d := some d.r) (by show d.r < gn.ntmps; rw [hgn]; exact hr1) hvv
      have fin : Code.wpS P d.grest (bodyPostS P gn c₀ fr fun
        | .returned _, u', w' => Go.Leaves P fn a4.tmps (fun en w' => ∃ y ∈ ends, ∃ G', ERel y.2.length G' y.1 en ∧ Rel G' y.2 w' ∧ Step H.length y.2.length G w G' w') [] (settle u') w'
        | .panicked chain, u', w' => Go.Leaves P fn a4.tmps (fun en w' => ∃ y ∈ ends, ∃ G', ERel y.2.length G' y.1 en ∧ Rel G' y.2 w' ∧ Step H.length y.2.length G w G' w') [] (raised u' chain) w'
        | .outgrown, _, w' => ∃ y ∈ ends, ∃ G', ERel y.2.length G' y.1 .outgrown ∧ Rel G' y.2 w' ∧ Step H.length y.2.length G w G' w')
          (Act.put { tmps := (#[] ++ cs) ++ Array.replicate (gn.ntmps - (#[] ++ cs).size) undef, defers := [] } (some d.r) rvv) ({ c₀ with mode := u2 } :: fr) w4 := by
        refine wpS_of_wp (wp_mono (hg G4 _ w4 hR4 (by rw [← hgn]; exact hE6)) ?_)
        rintro y a6 w6 ⟨ay, e6, H6, G6, hy, ⟨hyn, v7, H7, hmem, hret⟩, hR6, hE7, hst6⟩
        have hres0 : ∃ q, (results gn a6.tmps).run P w6 = .ok q w6 := by
          obtain ⟨q, hq, _⟩ := run_results (P := P) (fn := gn) (x := .tup []) hR6 hE7 (by rw [hgr]; rfl)
          exact ⟨q, hq⟩
        obtain ⟨q, hq⟩ := hres0
        have hE8 := hE4.mono hst6.ext
        obtain ⟨uu, huu, G7, k1, k2, k3⟩ := hret.run hR6 hE8 (hst04.trans hst6)
        have hL : Go.Leaves P fn a4.tmps (fun en w' => ∃ y ∈ ends, ∃ G', ERel y.2.length G' y.1 en ∧ Rel G' y.2 w' ∧ Step H.length y.2.length G w G' w') [] (settle u2) w6 := by
          rw [hset]
          exact ⟨uu, huu, _, hmem, G7, k1, k2, k3⟩
        rcases hyn with rfl | rfl
        · cases y <;> simp only [XRel] at hy
          exact ⟨hE7.defers, u2, rfl, q, hq, hL⟩
        · cases y <;> simp only [XRel] at hy
          exact ⟨hE7.defers, u2, rfl, q, hq, hL⟩
      have hrun := run_recover (P := P) (a := { tmps := (#[] ++ cs) ++ Array.replicate (gn.ntmps - (#[] ++ cs).size) undef, defers := [] }) hro w4
      have hw : Region.wanted rc (yielded #[rc] ((#[] ++ cs) ++ Array.replicate (gn.ntmps - (#[] ++ cs).size) undef)) = true := by simp [Region.wanted, hrg]
      show wpOpsS P #[rc] _ [0] _ _ _
      simp only [wpOpsS]
      rw [show (#[rc] : Array Oper)[0]? = some rc from rfl]
      simp only
      rw [if_pos hw, hrun]
      simp only
      rcases hrec c₀ fr hm with ⟨k1, rfl, rfl⟩ | k1
      · rw [k1]
        simp only [hrd]
        have : ({ c₀ with mode := u2 } : Frame) = c₀ := by cases c₀; simp only at hm; subst hm; rfl
        rw [this] at fin
        exact fin
      · rw [k1]
        simp only [hrd]
        exact fin
    have hdef : a4.defers = [⟨.fn (.func d.g) cs, #[]⟩] := hE4.defers
    cases x4 with
    | normal =>
      cases ax4 <;> simp only [XRel] at hx4
      simp only [recOf, Option.some.injEq] at hrv4
      subst hrv4
      show Go.Leaves P fn a4.tmps _ a4.defers .returning w4
      rw [hdef]
      exact key .returning .returning .nilIface (by simp) (fun c₀ fr hm => .inl ⟨by simp [recoverD, hm], rfl, rfl⟩) rfl (by simp only [V])
    | ret =>
      cases ax4 <;> simp only [XRel] at hx4
      simp only [recOf, Option.some.injEq] at hrv4
      subst hrv4
      show Go.Leaves P fn a4.tmps _ a4.defers .returning w4
      rw [hdef]
      exact key .returning .returning .nilIface (by simp) (fun c₀ fr hm => .inl ⟨by simp [recoverD, hm], rfl, rfl⟩) rfl (by simp only [V])
    | panic ch =>
      cases ax4 with
      | panic xv =>
        match ch, hx4 with
        | [cc], hx4 =>
          obtain ⟨q1, q2, q3⟩ := hx4
          have hxv : rv = xv := recOf_panic hrv4
          subst hxv
          obtain ⟨cv, cr, cg⟩ := cc
          simp only at q1 q2 q3
          subst q1 q2
          show Go.Leaves P fn a4.tmps _ a4.defers (.panicking _) w4
          rw [hdef]
          exact key _ (.panicking [{ v := cv, recovered := true }]) cv (by simp) (fun c₀ fr hm => .inr (by simp [recoverD, hm])) rfl q3
      | _ => exact hx4.elim
    | exit i => cases ax4 <;> simp only [XRel] at hx4; cases hrv4
    | goto i => cases ax4 <;> simp only [XRel] at hx4; cases hrv4
    | outgrown => cases ax4 <;> exact hx4.elim
  unfold Oper.wp
  rw [hr]
  rcases hmk with rfl | ⟨rfl, rfl⟩
  · exact hk
  · exact hk
end Go.Ab
end
