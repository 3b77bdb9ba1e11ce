/- A part of a proof: rules for reading Go code as code over plain values, and what follows for this program. Its conditions stand in each statement. -/
import Derived.Test.YtackcjahocaonaaGreatDoorEvX
section
set_option linter.unusedSimpArgs false
set_option linter.unusedVariables false
/-! The evaluator says what is so. -/
namespace Go.Ab
variable {P : Program} {R : Prg} {N : Fr}
def dstFits (N : Nat) (o : Oper) : Bool := match o.dst with | none => true | some d => Nat.blt d N
def clsOf (cl : List Nat) (j : Nat) : Nat := (cl[j]?).getD 2
/-- Slots fit; regions whose order is drawn may be taken as they are listed. -/
def goodC (D : RT) (N : Nat) : Code → Bool
  | .seq a b => goodC D N a && goodC D N b
  | .cond _ a b => goodC D N a && goodC D N b
  | .block _ c => goodC D N c
  | .loop c => goodC D N c
  | .region id ops dr => ops.toList.all (dstFits N) && (match dr with | false => true | true => match D id with | none => true | some rc => tameC ops.toList.toArray (clsOf rc.cl))
  | _ => true
theorem dstFits_ok {o : Oper} (h : dstFits N.size o = true) : dstOk N o.dst := by
  unfold dstFits at h
  cases hd : o.dst with
  | none => trivial
  | some d => rw [hd] at h; simp only at h; rw [blt_lt] at h; exact h
/-- What must be so of a function that defers. -/
def DfOk (P : Program) (fn : Func) (c : FnC) (d : DfC) : Prop :=
  ∃ i1 i2 mk df gn rc, fn.body = some (.seq d.pre (.seq (.region i1 #[mk, df] false) d.rest)) ∧ mk.guard = none ∧ df.guard = none ∧ df.dst = none ∧
    mk.op = .makeFunc (.func d.g) #[] d.cap.toArray ∧ mk.dst = some d.s ∧ (∃ ts, df.op = .defer { callee := .value (.tmp d.s), args := #[], argTypes := ts }) ∧ d.s < c.ntmps ∧
    goodC c.cls c.ntmps d.pre = true ∧ goodC c.cls c.ntmps d.rest = true ∧
    P.funcs[d.g]? = some gn ∧ P.enters d.g = true ∧ gn.ntmps = d.gn ∧ gn.results = #[] ∧ gn.body = some (.seq (.region i2 #[rc] false) d.grest) ∧ rc.guard = none ∧ rc.dst = some d.r ∧ d.r < d.gn ∧ d.cap.length ≤ d.gn ∧
    (∃ ts, rc.op = .call { callee := .builtin .recover, args := #[], argTypes := ts }) ∧ goodC d.gcls d.gn d.grest = true
def BodyOk (P : Program) (fn : Func) (c : FnC) : Prop := match c.dfr with
  | none => fn.body = some c.body ∧ goodC c.cls c.ntmps c.body = true
  | some d => DfOk P fn c d
structure PrgOk (P : Program) (R : Prg) : Prop where
  T : R.T.Ok P
  fn : ∀ f c, R.fn f = some c → ∃ fn, P.funcs[f]? = some fn ∧ fn.ntmps = c.ntmps ∧ fn.results.toList = c.results ∧ P.enters f = true ∧ BodyOk P fn c
  pure : ∀ f args r, R.pure f args = some r → PureFn P f args r
  orc : ∀ f args h n l, R.orc f args h n = some l → NCall P f args (heapOf h n) (l.map fun x => (x.1, heapOf x.2.1 x.2.2))
  mixed : P.follows .mixedOrders = true
/-- One of some ends. -/
def outQ (outs : Outs) : Post := fun x e H => ∃ τ, (x, τ) ∈ outs ∧ Repr e τ.e ∧ H = heapOf τ.h τ.n
theorem outQ_sub {l m : Outs} (h : ∀ y ∈ l, y ∈ m) {x : AX} {e : Env} {H : Heap} (k : outQ l x e H) : outQ m x e H :=
  let ⟨τ, h1, h2⟩ := k; ⟨τ, h _ h1, h2⟩
theorem outQ_cov {l m : Outs} (h : Cov l m) {x : AX} {e : Env} {H : Heap} (k : outQ l x e H) : outQ m x e H := by
  obtain ⟨τ, h1, h2, rfl⟩ := k
  obtain ⟨⟨x', τ'⟩, hz, e1, e2, e3, e4⟩ := h _ h1
  simp only at e1 e2 e3 e4
  subst e1
  exact ⟨τ', hz, by rw [← e2]; exact h2, e4⟩
theorem Cov.outQ {l m : Outs} (h : Cov l m) {x : AX} {τ : St} {e : Env} (hm : (x, τ) ∈ l) (he : Repr e τ.e) : outQ m x e (heapOf τ.h τ.n) := outQ_cov h ⟨τ, hm, he, rfl⟩
def Drawn (P : Program) (N : Fr) (all : Array Oper) (l : List Oper) (cl : RS) (σ : St) (outs : Outs) : Prop :=
  ∀ (S : Heap → Prop) (k : Nat) (cls : Nat → Nat), (∀ hs, cl.1 = some hs → S = HOk hs ∧ HOk hs (heapOf σ.h σ.n)) → (∀ j, l[j]? = all[k + j]?) → (∀ j, j < l.length → cls (k + j) = clsOf cl.2 j) → ∀ e, Repr e σ.e → ∃ τ ef, outs = [(.normal, τ)] ∧ Repr ef τ.e ∧ TrC P N all cls S ef (heapOf τ.h τ.n) l k e (heapOf σ.h σ.n)
def OpsOk (P : Program) (N : Fr) (all : Array Oper) (l : List Oper) : Option RS → St → Outs → Prop
  | none, σ, outs => ∀ e, Repr e σ.e → SOPS P N all l e (heapOf σ.h σ.n) (outQ outs)
  | some cl, σ, outs => Drawn P N all l cl σ outs
/-- What the evaluator's answer says. -/
def Sound (P : Program) (N : Fr) : Job → St → Outs → Prop
  | .code D c, σ, outs => goodC D N.size c = true → ∀ e, Repr e σ.e → AWP P N c e (heapOf σ.h σ.n) (outQ outs)
  | .ops all l cls, σ, outs => (∀ o ∈ l, dstOk N o.dst) → OpsOk P N all l cls σ outs
  | .loop D c σ0 more done, σ, outs => goodC D N.size c = true → Cov done outs ∧ ∀ τ ∈ σ :: more, ∀ e, Repr e τ.e → LoopAt P N c σ0.n e (heapOf τ.h τ.n) (outQ outs)
def Holy (P : Program) (ih : Ev) : Prop := ∀ j σ outs, ih j σ = some outs → ∀ N : Fr, Sound P N j σ outs

theorem allM_mem {α β : Type} {f : α → Option (List β)} : ∀ (l : List α) (r : List β), allM f l = some r → ∀ x ∈ l, ∃ s, f x = some s ∧ ∀ z ∈ s, z ∈ r := by
  intro l
  induction l with
  | nil => intro r h x hx; cases hx
  | cons a l ih =>
    intro r h x hx
    cases l with
    | nil =>
      simp only [allM] at h
      rcases List.mem_cons.1 hx with rfl | hx
      · exact ⟨r, h, fun _ h => h⟩
      · cases hx
    | cons b l =>
      rw [allM] at h
      rotate_left
      · simp
      split at h
      · rename_i s t hs ht
        cases h
        rcases List.mem_cons.1 hx with rfl | hx
        · exact ⟨s, hs, fun z hz => List.mem_append_left _ hz⟩
        · obtain ⟨s', h1, h2⟩ := ih t ht x hx
          exact ⟨s', h1, fun z hz => List.mem_append_right _ (h2 z hz)⟩
      · cases h
/-! ### Slots and trees -/
theorem exists_tree (e : Env) : ∃ t, Repr e t := by
  induction e with
  | nil => exact ⟨.nil, fun s => rfl⟩
  | cons x e ih =>
    obtain ⟨d, v⟩ := x
    obtain ⟨t, ht⟩ := ih
    exact ⟨putT t (some d) v, ht.put (some d) v⟩
theorem exec_of_under {o : Oper} {e : Env} {H H' : Heap} {v : AV} (h : (∀ x, (e.ev x).under H.length) → (∀ (id m : Nat) (a b : List Key) (c : Option Key), H[id]? = some (AObj.iter m a b c) → m < H.length) → Exec P o e H v H') : Exec P o e H v H' :=
  fun N G a w hR hE => h (fun x => V.isUnder _ _ (hE.ev x)) (fun id m a b c hH => hR.isUnder _ (List.mem_of_getElem? hH)) N G a w hR hE
theorem evs_congr {t t' : BT AV} {l : List Operand} (h : ∀ x ∈ l, ev1 t x = ev1 t' x) : evs t l = evs t' l := by
  induction l with
  | nil => rfl
  | cons x l ih =>
    show ev1 t x :: evs t l = ev1 t' x :: evs t' l
    rw [h x List.mem_cons_self, ih fun y hy => h y (List.mem_cons_of_mem _ hy)]
theorem evOp_congr {T : Tab} {op : Op} {t t' : BT AV} {h : BT AObj} {n : Nat} (k : ∀ x ∈ op.operands.toList, ev1 t x = ev1 t' x) : evOp T op t h n = evOp T op t' h n := by
  cases op with
  | build ty parts =>
    have hp : (parts.toList.map fun x => (x.1, ev1 t x.2)) = parts.toList.map fun x => (x.1, ev1 t' x.2) := List.map_congr_left fun x hx => by
      rw [k x.2 (by simp only [Op.operands, List.mem_map]; exact ⟨x, hx, rfl⟩)]
    simp only [evOp, hp]
  | buildSlice ty len parts =>
    have hp : (parts.toList.map fun x => ev1 t x.2) = parts.toList.map fun x => ev1 t' x.2 := List.map_congr_left fun x hx => by
      rw [k x.2 (by simp only [Op.operands, List.mem_map]; exact ⟨x, hx, rfl⟩)]
    simp only [evOp, hp]
  | makeFunc fn first cap =>
    have h1 : evs t first.toList = evs t' first.toList := evs_congr fun x hx => k x (by simp only [Op.operands, Array.toList_append, List.mem_append]; exact .inl hx)
    have h2 : evs t cap.toList = evs t' cap.toList := evs_congr fun x hx => k x (by simp only [Op.operands, Array.toList_append, List.mem_append]; exact .inr hx)
    simp only [evOp, h1, h2]
  | makeMap ty r =>
    simp only [evOp]
    congr 1
    cases r with
    | none => rfl
    | some x => simp only [oReserve]; rw [k x (by simp [Op.operands])]
  | slice ty x lo hi mx =>
    have hx : ev1 t x = ev1 t' x := k x (by simp [Op.operands])
    have hl : ∀ d, boundR t lo d = boundR t' lo d := by
      intro d
      cases lo with
      | none => rfl
      | some y => simp only [boundR]; rw [k y (by simp [Op.operands])]
    have hh : ∀ d, boundR t hi d = boundR t' hi d := by
      intro d
      cases hi with
      | none => rfl
      | some y => simp only [boundR]; rw [k y (by simp [Op.operands])]
    simp only [evOp, oSlice, hx, hl, hh]
    cases mx with
    | none => rfl
    | some m =>
      have hm : ev1 t m = ev1 t' m := k m (by simp [Op.operands])
      cases lo with
      | some y => rfl
      | none =>
        cases hi with
        | none => rfl
        | some y =>
          have hy : ev1 t y = ev1 t' y := k y (by simp [Op.operands])
          simp only [hm, hy]
  | call c =>
    obtain ⟨callee, args, ts⟩ := c
    have ha : evs t args.toList = evs t' args.toList := evs_congr fun x hx => k x (by simp only [Op.operands, Call.operands, Array.toList_append, List.mem_append]; exact .inr hx)
    simp only [evOp, oCall, ha]
  | next x s =>
    simp [Op.operands] at k
    cases s <;> simp [evOp, k]
  | _ => simp [Op.operands] at k; simp [evOp, k]
theorem plain_exec {o : Oper} {e : Env} {t : BT AV} {h : BT AObj} {H : Heap} {n : Nat} {v : AV} {eff : Eff} (hT : R.T.Ok P) (hr : Repr e t) (hh : HOk h H) (hn : n = H.length ∨ eff = .keep) (k : evOp R.T o.op t h n = some (v, eff)) {ops : Array Oper} :
    ∀ e' : Env, (∀ s ∈ o.looksAt ops, e'.get s = e.get s) → Exec P o e' H v (eff.app H) := by
  intro e' he'
  refine exec_of_under fun hu hiu => ?_
  obtain ⟨t', ht'⟩ := exists_tree e'
  have hop := looksAt_op (o := o) he'
  have : evOp R.T o.op t' h n = some (v, eff) := by
    rw [← k]
    exact evOp_congr fun x hx => by rw [ht'.ev, hr.ev, hop x hx]
  exact evOp_snd hT (fun x => ht'.ev x) hh hu hiu hn this
theorem guardR_eq {all : Array Oper} {t : BT AV} {e : Env} (hr : Repr e t) {j : Nat} {b w : Bool} (k : guardR all t j b = some w) : guardOf all e j b = some w := by
  unfold guardR at k
  rw [nth_eq, Array.getElem?_toList] at k
  unfold guardOf
  cases ho : all[j]? with
  | none => rw [ho] at k; cases k
  | some o =>
    rw [ho] at k
    simp only [Option.bind_some] at k ⊢
    cases hd : o.dst with
    | none => rw [hd] at k; cases k
    | some d =>
      rw [hd] at k
      simp only at k ⊢
      rw [hr d]
      split at k
      · rename_i hs; rw [hs]; exact k
      · rename_i hs; rw [hs]; exact k
      · cases k
theorem callsR_eq {t : BT AV} {e : Env} (hr : Repr e t) {c : Call} {f : FuncId} {args : List AV} (k : callsR t c = some (f, args)) : calls e c = some (f, args) := by
  have hev : evs t c.args.toList = c.args.toList.map e.ev := evs_eq (fun x => hr.ev x) _
  unfold callsR at k
  unfold calls
  split at k
  · rename_i g hg
    rw [hg]
    simp only
    rw [hr.ev] at k
    split at k
    · rename_i fn first cap hf
      rw [hf]
      split at k
      · rename_i id
        simp only
        split at k
        · cases k
          rw [hev]
          simp
        · cases k
          rw [hev]
      · cases k
    · cases k
  · cases k
end Go.Ab
end
