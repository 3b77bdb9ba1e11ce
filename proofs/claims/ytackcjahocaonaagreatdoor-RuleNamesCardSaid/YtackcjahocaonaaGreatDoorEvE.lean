/- A part of a proof: rules for reading Go code as code over plain values, and what follows for this program. Its conditions stand in each statement. -/
import Derived.Test.YtackcjahocaonaaGreatDoorEvZ
section
set_option linter.unusedSimpArgs false
set_option linter.unusedVariables false
namespace Go.Ab
variable {P : Program} {R : Prg} {N : Fr} {ih : Ev} {all : Array Oper} {o : Oper} {rest : List Oper} {cls : Option RS} {σ : St} {outs : Outs}
theorem evCall_ok (hP : PrgOk P R) (hih : Holy P ih) {c : Call} {f : FuncId} {args : List AV} (ho : o.op = .call c) (hc : callsR σ.e c = some (f, args)) (hw : ∀ e, Repr e σ.e → Want all o e true) (hd : ∀ o' ∈ o :: rest, dstOk N o'.dst) (h : evCall R ih all o rest cls σ f args = some outs) : OpsOk P N all (o :: rest) cls σ outs := by
  have hd0 := hd o List.mem_cons_self
  have hdr : ∀ o' ∈ rest, dstOk N o'.dst := fun o' h => hd o' (List.mem_cons_of_mem _ h)
  unfold evCall at h
  split at h
  · rename_i v hv
    obtain ⟨h, hg⟩ := gate_some h
    rw [avK_eq, putE_eq] at h
    exact ops_pure ho hc hw hd0 hg (hP.pure _ _ _ hv) (hih _ _ _ h N hdr)
  · split at h
    · rename_i h1
      split at h
      · rename_i v τ hl
        split at h
        · rename_i hb
          simp only [Bool.and_eq_true, Nat.beq_eq] at hb
          rw [avK_eq, putE_eq] at h
          obtain ⟨k1, k2⟩ := evFn_ok hP hih hl
          have hsame : heapOf τ.h τ.n = heapOf σ.h σ.n := by rw [hb.1]; exact heapOf_congr (beqObjs_eq _ _ _ hb.2)
          have hD : DCall P f args (heapOf σ.h σ.n) (.ret v) (heapOf σ.h σ.n) := by
            have := NCall.toD (r := .ret v) (H' := heapOf τ.h τ.n) k2
            rw [hsame] at this
            exact this
          exact ops_dcall ho hc hw hd0 hD (.inr ⟨h1, rfl⟩) (hih _ _ _ h N hdr)
        · cases h
      · cases h
    · rename_i h2
      split at h
      · rename_i l horc
        refine goEnds_ok (l := l.map fun x => (x.1, ⟨σ.e, x.2.1, x.2.2⟩)) hih ho hc hw hd (fun y hy => by obtain ⟨x, _, rfl⟩ := List.mem_map.1 hy; rfl) ?_ h2 h
        have := hP.orc _ _ _ _ _ horc
        simp only [endsH, List.map_map]
        exact this
      · split at h
        · rename_i l hl
          obtain ⟨k1, k2⟩ := evFn_ok hP hih hl
          exact goEnds_ok hih ho hc hw hd k1 k2 h2 h
        · cases h
    · cases h
theorem hasKey_mem {l : List Key} {k : Key} (h : hasKey l k = true) : k ∈ l := by
  induction l with
  | nil => cases h
  | cons q l hi =>
    simp only [hasKey] at h
    split at h
    · rename_i e; rw [eqb_eq.1 e]; exact List.mem_cons_self
    · exact List.mem_cons_of_mem _ (hi h)
theorem allIn_mem {a b : List Key} (h : allIn a b = true) : ∀ k ∈ a, k ∈ b := by
  induction a with
  | nil => intro k hk; cases hk
  | cons q a hi =>
    simp only [allIn] at h
    split at h
    · rename_i e
      intro k hk
      rcases List.mem_cons.1 hk with rfl | hk
      · exact hasKey_mem e
      · exact hi h k hk
    · cases h
theorem nexec_of_under {e : Env} {H : Heap} {l : List (AV × Heap)} (h : (∀ x, (e.ev x).under H.length) → (∀ (id m : Nat) (a b : List Key) (c : Option Key), H[id]? = some (AObj.iter m a b c) → m < H.length) → NExec P o e H l) : NExec P o e H l :=
  fun N G a w hR hE => h (fun x => V.isUnder _ _ (hE.ev x)) (fun id m a b c hH => hR.isUnder _ (List.mem_of_getElem? hH)) N G a w hR hE
theorem evNext_ok {e : Env} {x : Operand} {l : List (AV × Eff)} (ho : o.op = .next x false) (he : Repr e σ.e) (h : evNext σ.h (ev1 σ.e x) = some l) : NExec P o e (heapOf σ.h σ.n) (l.map fun y => (y.1, y.2.app (heapOf σ.h σ.n))) := by
  refine nexec_of_under fun hu hiu => ?_
  rw [he.ev] at h
  unfold evNext at h
  split at h
  · rename_i id hx
    split at h
    · rename_i m keys left last hob
      split at h
      · rename_i kt es hob2
        split at h
        · rename_i hs
          simp only [sameKeys, Bool.and_eq_true, Nat.beq_eq, lenK_eq, List.length_map] at hs
          obtain ⟨⟨h1, h2⟩, h3⟩ := hs
          have hid := hu x
          rw [hx] at hid
          simp only [AV.under] at hid
          have hH := (hok_heap σ.h σ.n).at hid hob (by simp)
          have hM := (hok_heap σ.h σ.n).at (hiu _ _ _ _ _ hH) hob2 (by simp)
          have := nexec_next (P := P) ho hx hH hM h1 (allIn_mem h3) (allIn_mem h2)
          split at h
          · cases h
            exact this
          · rename_i q hne
            cases h
            have e2 : nextOuts (heapOf σ.h σ.n) id m keys left kt es = left.map fun k => (.tup [.bool true, k.av kt, (mget es k).getD .junk], (heapOf σ.h σ.n).set id (.iter m keys (dropKey left k) (some k))) := by
              unfold nextOuts
              split
              · exact absurd rfl hne
              · rfl
            rw [e2] at this
            rw [List.map_map]
            have e3 : left.map ((fun y : AV × Eff => (y.1, y.2.app (heapOf σ.h σ.n))) ∘ fun k => (AV.tup [.bool true, k.av kt, (mgetF es k).getD .junk], Eff.set id (.iter m keys (dropKey left k) (some k)))) = left.map fun k => (AV.tup [.bool true, k.av kt, (mget es k).getD .junk], (heapOf σ.h σ.n).set id (.iter m keys (dropKey left k) (some k))) :=
              List.map_congr_left fun k _ => by simp only [Function.comp, mgetF_eq, app_set]
            rw [e3]
            exact this
        · cases h
      · cases h
    · cases h
  · cases h
theorem evAct_ok (hP : PrgOk P R) (hih : Holy P ih) (hw : ∀ e, Repr e σ.e → Want all o e true) (hd : ∀ o' ∈ o :: rest, dstOk N o'.dst) (h : evAct R ih all o rest cls σ = some outs) : OpsOk P N all (o :: rest) cls σ outs := by
  have hd0 := hd o List.mem_cons_self
  have hdr : ∀ o' ∈ rest, dstOk N o'.dst := fun o' h => hd o' (List.mem_cons_of_mem _ h)
  unfold evAct at h
  split at h
  · rename_i c ho
    split at h
    · rename_i f args hc
      split at h
      · exact evPlain_ok hP hih hw hd h
      · exact evCall_ok hP hih ho hc hw hd h
    · exact evPlain_ok hP hih hw hd h
  · rename_i x ho
    split at h
    · split at h
      · rename_i l hl
        intro e he
        refine sops_nexec (hw e he) hd0 (evNext_ok ho he hl) fun y hy => ?_
        obtain ⟨z, hz, rfl⟩ := List.mem_map.1 hy
        obtain ⟨s, hs, hsub⟩ := allM_mem _ _ h z hz
        obtain ⟨v, eff, hr, hk⟩ := plainK_eq hs
        cases hr
        have := hih _ _ _ hk N hdr (e.put o.dst v) (he.put _ _)
        simp only [heapOf_eff] at this
        exact fun G a w h1 h2 => wpList_mono (fun _ _ _ k => k.mono fun _ _ _ => outQ_sub hsub) _ _ _ (this G a w h1 h2)
      · cases h
    · cases h
  · rename_i x ho
    split at h
    · rename_i t v hx
      cases h
      intro e he
      rw [he.ev] at hx
      exact sops_panic ho (hw e he) hx ⟨σ, List.mem_singleton_self _, he, rfl⟩
    · cases h
  · rename_i x ho
    exact evMove_ok hP hih (.inl ho) hw hd h
  · rename_i x ho
    exact evMove_ok hP hih (.inr ho) hw hd h
  · exact evPlain_ok hP hih hw hd h
theorem evOps_ok (hP : PrgOk P R) (hih : Holy P ih) {l : List Oper} (hd : ∀ o' ∈ l, dstOk N o'.dst) (h : evOps R ih all l cls σ = some outs) : OpsOk P N all l cls σ outs := by
  cases l with
  | nil =>
    change some [(AX.normal, σ)] = some outs at h
    cases h
    cases cls with
    | none => exact fun e he => sops_nil ⟨σ, List.mem_singleton_self _, he, rfl⟩
    | some cl => exact fun S k c hS hl hc e he => ⟨σ, e, rfl, he, rfl, rfl⟩
  | cons o rest =>
    change (Option.rec (motive := fun _ => Option Outs) (evAct R ih all o rest cls σ) (fun g => evGuard R ih all o rest cls σ (guardR all σ.e g.1 g.2)) o.guard) = some outs at h
    cases hg : o.guard with
    | none =>
      rw [hg] at h
      exact evAct_ok hP hih (fun e he => .inl ⟨hg, rfl⟩) hd h
    | some g =>
      obtain ⟨j, b⟩ := g
      rw [hg] at h
      change evGuard R ih all o rest cls σ (guardR all σ.e j b) = some outs at h
      have hd0 := hd o List.mem_cons_self
      have hdr : ∀ o' ∈ rest, dstOk N o'.dst := fun o' h => hd o' (List.mem_cons_of_mem _ h)
      unfold evGuard at h
      split at h
      · rename_i hw
        exact evAct_ok hP hih (fun e he => .inr ⟨j, b, hg, guardR_eq he hw⟩) hd h
      · rename_i hw
        obtain ⟨h, hgt⟩ := gate_some h
        rw [putE_eq] at h
        exact ops_skip (fun e he => .inr ⟨j, b, hg, guardR_eq he hw⟩) hd0 hgt (hih _ _ _ h N hdr)
      · cases h
theorem awp_label {l : Nat} {e : Env} {H : Heap} {Q : Post} (h : Q .normal e H) : AWP P N (.label l) e H Q := fun G a w hR hE => wp_label ⟨.normal, e, H, G, trivial, h, hR, hE, Step.refl _ _ _⟩
theorem slow_ok {h g : BT AObj} {H : Heap} (k : HOk h H) (kg : HOk g H) (id : Nat) : HOk (BT.slow .dead (obj h id) g id) H := fun i hlt => by
  have e : obj (BT.slow .dead (obj h id) g id) i = if i = id then obj h id else obj g i := slow_get _ _ _ _ _
  rw [e]
  by_cases hi : i = id
  · subst hi; rw [if_pos rfl]; exact k i hlt
  · rw [if_neg hi]; exact kg i hlt
theorem keepT_ok (e : BT AV) {h : BT AObj} {H : Heap} (k : HOk h H) : ∀ (l : List Nat), HOk (keepT e h l) H := by
  intro l
  induction l with
  | nil => exact hok_nil H
  | cons s l hi =>
    simp only [keepT]
    split
    · rw [putK_eq]; exact slow_ok k hi _
    · rw [putK_eq]; exact slow_ok k hi _
    · rw [putK_eq]; exact slow_ok k hi _
    · exact hi
theorem evCode_ok (hP : PrgOk P R) (hih : Holy P ih) {D : RT} {c : Code} (hg : goodC D N.size c = true) (h : evCode R ih D c σ = some outs) : ∀ e, Repr e σ.e → AWP P N c e (heapOf σ.h σ.n) (outQ outs) := by
  intro e he
  unfold evCode at h
  split at h
  · cases h; exact awp_skip ⟨σ, List.mem_singleton_self _, he, rfl⟩
  · rename_i a b
    simp only [goodC, Bool.and_eq_true] at hg
    unfold seqK at h
    split at h
    · cases h
    · rename_i l hl
      refine awp_seq ((hih _ _ _ hl N hg.1 e he).mono ?_)
      rintro x e1 H1 ⟨τ, hm, he1, rfl⟩
      obtain ⟨s, hs, hsub⟩ := allM_mem _ _ h _ hm
      simp only at hs
      cases x with
      | normal => exact (hih _ _ _ hs N hg.2 e1 he1).mono fun _ _ _ => outQ_sub hsub
      | _ => cases hs; exact ⟨τ, hsub _ List.mem_cons_self, he1, rfl⟩
  · rename_i id ops dr
    simp only [goodC, Bool.and_eq_true, List.all_eq_true] at hg
    have hd : ∀ o ∈ ops.toList, dstOk N o.dst := fun o ho => dstFits_ok (hg.1 o ho)
    unfold evRegion at h
    split at h
    · have := hih _ _ _ h N hd e he
      have hr : AWP P N (.region id ops.toList.toArray false) e (heapOf σ.h σ.n) (outQ outs) := awp_region (by simpa using this)
      simpa using hr
    · split at h
      · rename_i rc hcl
        have hg2 := hg.2
        simp only [hcl] at hg2
        have hS : ∀ hs, startS σ rc.mask = some hs → HOk hs (heapOf σ.h σ.n) := fun hs hh => by
          unfold startS at hh
          split at hh
          · cases hh
          · rename_i l _
            cases hh
            exact keepT_ok _ (hok_heap _ _) _
        obtain ⟨τ, ef, rfl, hef, htr⟩ := hih _ _ _ h N hd (match startS σ rc.mask with | some hs => HOk hs | none => fun _ => True) 0 (clsOf rc.cl) (fun hs hh => by simp only at hh; rw [hh]; exact ⟨rfl, hS hs hh⟩) (fun j => by simp) (fun j _ => by rw [Nat.zero_add]) e he
        have hr : AWP P N (.region id ops.toList.toArray true) e (heapOf σ.h σ.n) (outQ [(.normal, τ)]) := awp_drawnC hP.mixed hg2 (by simpa using htr) ⟨τ, List.mem_singleton_self _, hef, rfl⟩
        simpa using hr
      · cases h
  · rename_i x a b
    simp only [goodC, Bool.and_eq_true] at hg
    unfold evCond at h
    split at h
    · rename_i t ht
      rw [he.ev] at ht
      refine awp_cond ht (fun h1 => ?_) (fun h1 => ?_)
      · subst h1; exact hih _ _ _ h N hg.1 e he
      · subst h1; exact hih _ _ _ h N hg.2 e he
    · cases h
  · rename_i id c
    simp only [goodC] at hg
    unfold evBlock at h
    split at h
    · rename_i l hl
      cases h
      refine awp_block ((hih _ _ _ hl N hg e he).mono ?_)
      rintro x e1 H1 ⟨τ, hm, he1, rfl⟩
      have hm' : (blockX id x, τ) ∈ l.map fun y => (blockX id y.1, y.2) := List.mem_map.2 ⟨_, hm, rfl⟩
      cases x with
      | exit i =>
        simp only [blockQ]
        simp only [blockX] at hm'
        split at hm'
        · rename_i hi
          rw [Nat.beq_eq] at hi
          rw [if_pos hi]
          exact ⟨τ, hm', he1, rfl⟩
        · rename_i hi
          rw [if_neg (fun e => by rw [e] at hi; simp at hi)]
          exact ⟨τ, hm', he1, rfl⟩
      | _ => exact ⟨τ, hm', he1, rfl⟩
    · cases h
  · rename_i c
    simp only [goodC] at hg
    have := (hih _ _ _ h N hg).2 σ List.mem_cons_self e he
    exact LoopAt.awp (by rw [heapOf_length]; exact this)
  · cases h; exact awp_exit ⟨σ, List.mem_singleton_self _, he, rfl⟩
  · cases h; exact awp_ret ⟨σ, List.mem_singleton_self _, he, rfl⟩
  · cases h; exact awp_label ⟨σ, List.mem_singleton_self _, he, rfl⟩
  · cases h
theorem isNormal_iff {x : AX} : isNormal x = true ↔ x = .normal := by cases x <;> simp [isNormal]
theorem loopMany_ok (hih : Holy P ih) {D : RT} {c : Code} {σ0 : St} {more : List St} {done l : Outs} (hg : goodC D N.size c = true) (hl : ∀ τ ∈ σ :: more, ∃ s, ih (.code D c) τ = some s ∧ ∀ z ∈ s, z ∈ l)
    (h : loopMany ih D c σ0 done l = some outs) : Cov done outs ∧ ∀ τ ∈ σ :: more, ∀ e, Repr e τ.e → LoopAt P N c σ0.n e (heapOf τ.h τ.n) (outQ outs) := by
  unfold loopMany at h
  simp only at h
  have hcov1 := dedupOuts_cov (l.map (normX σ0))
  generalize dedupOuts (l.map (normX σ0)) = l' at h hcov1
  have hcov2 := dedupOuts_cov (l'.filter (fun y => !isNormal y.1) ++ done)
  generalize dedupOuts (l'.filter (fun y => !isNormal y.1) ++ done) = done' at h hcov2
  have key : Cov done' outs ∧ ∀ τ, (AX.normal, τ) ∈ l' → ∀ e, Repr e τ.e → LoopAt P N c σ0.n e (heapOf τ.h τ.n) (outQ outs) := by
    split at h
    · rename_i hnil
      cases h
      refine ⟨Cov.refl _, fun τ hτ => ?_⟩
      have : τ ∈ (l'.filter fun y => isNormal y.1).map (·.2) := List.mem_map.2 ⟨_, List.mem_filter.2 ⟨hτ, rfl⟩, rfl⟩
      rw [hnil] at this
      cases this
    · rename_i τ0 ts hcons
      obtain ⟨k1, k2⟩ := hih _ _ _ h N hg
      refine ⟨k1, fun τ hτ => k2 τ ?_⟩
      rw [← hcons]
      exact List.mem_map.2 ⟨_, List.mem_filter.2 ⟨hτ, rfl⟩, rfl⟩
  obtain ⟨kc, kl⟩ := key
  refine ⟨(Cov.sub fun y hy => List.mem_append_right _ hy).trans (hcov2.trans kc), fun τ hτ e he => ?_⟩
  obtain ⟨s, hs, hsub⟩ := hl τ hτ
  refine LoopAt.round ((hih _ _ _ hs N hg e he).mono ?_)
  rintro x e1 H1 ⟨τ1, hm, he1, rfl⟩
  obtain ⟨⟨x2, τ2⟩, hz, hx2, heqv⟩ := hcov1 (normX σ0 (x, τ1)) (List.mem_map.2 ⟨_, hsub _ hm, rfl⟩)
  obtain ⟨e3, he3⟩ := exists_repr τ2.e
  obtain ⟨q1, q2, q3⟩ := heqv
  simp only at hx2 q1 q2 q3
  have hxx : (normX σ0 (x, τ1)).1 = x := by unfold normX; simp only; split <;> rfl
  rw [hxx] at hx2
  subst hx2
  have hshr : Shr σ0.n x2 e1 (heapOf τ1.h τ1.n) e3 (heapOf τ2.h τ2.n) := by
    by_cases hp : ∃ y, x2 = .panic y
    · obtain ⟨y, rfl⟩ := hp
      simp only [normX] at q1 q3
      rw [← q3]
      exact ⟨fun s => .inr (by rw [he1 s, he3 s, q1]), .inl rfl⟩
    · have hn : normX σ0 (x2, τ1) = (x2, norm σ0 τ1) := by
        unfold normX
        simp only
        split
        · exact absurd ⟨_, rfl⟩ hp
        · rfl
      rw [hn] at q1 q3
      simp only at q1 q3
      rw [← q3]
      exact norm_shr σ0 τ1 he1 (fun y e => hp ⟨y, e⟩) (by rw [q1]; exact he3)
  refine ⟨e3, _, hshr, ?_⟩
  cases x2 with
  | normal => exact kl τ2 hz e3 he3
  | exit i => exact (((Cov.sub fun y hy => List.mem_append_left _ hy).trans (hcov2.trans kc)).outQ (List.mem_filter.2 ⟨hz, rfl⟩) he3)
  | goto i => exact (((Cov.sub fun y hy => List.mem_append_left _ hy).trans (hcov2.trans kc)).outQ (List.mem_filter.2 ⟨hz, rfl⟩) he3)
  | ret => exact (((Cov.sub fun y hy => List.mem_append_left _ hy).trans (hcov2.trans kc)).outQ (List.mem_filter.2 ⟨hz, rfl⟩) he3)
  | panic y => exact (((Cov.sub fun y hy => List.mem_append_left _ hy).trans (hcov2.trans kc)).outQ (List.mem_filter.2 ⟨hz, rfl⟩) he3)
theorem evLoop_ok (hih : Holy P ih) {D : RT} {c : Code} {σ0 : St} {more : List St} {done : Outs} (hg : goodC D N.size c = true) (h : evLoop ih D c σ0 more done σ = some outs) :
    Cov done outs ∧ ∀ τ ∈ σ :: more, ∀ e, Repr e τ.e → LoopAt P N c σ0.n e (heapOf τ.h τ.n) (outQ outs) := by
  unfold evLoop at h
  split at h
  · cases h
  · rename_i l hl
    have hl' := allM_mem _ _ hl
    split at h
    · split at h
      · rename_i y
        refine ⟨(fun y hy => by cases hy), fun τ hτ e he => ?_⟩
        obtain ⟨s, hs, hsub⟩ := hl' τ hτ
        refine LoopAt.round ((hih _ _ _ hs N hg e he).mono ?_)
        rintro x e1 H1 ⟨τ1, hm, he1, rfl⟩
        refine ⟨e1, _, Shr.same, ?_⟩
        have hy := hsub _ hm
        rw [List.mem_singleton] at hy
        subst hy
        cases x with
        | normal => exact (hih _ _ _ h N hg).2 τ1 List.mem_cons_self e1 he1
        | exit i => cases h; exact ⟨τ1, List.mem_singleton_self _, he1, rfl⟩
        | goto i => cases h; exact ⟨τ1, List.mem_singleton_self _, he1, rfl⟩
        | ret => cases h; exact ⟨τ1, List.mem_singleton_self _, he1, rfl⟩
        | panic i => cases h; exact ⟨τ1, List.mem_singleton_self _, he1, rfl⟩
      · exact loopMany_ok hih hg hl' h
    · exact loopMany_ok hih hg hl' h
/-- What the evaluator answers is so. -/
theorem ev_sound (hP : PrgOk P R) : ∀ n, Holy P (ev R n) := by
  intro n
  induction n with
  | zero => intro j σ outs h; cases h
  | succ n hi =>
    intro j σ outs h N
    change evStep R (ev R n) j σ = some outs at h
    cases j with
    | code D c => exact fun hg => evCode_ok hP hi hg h
    | ops all l cls => exact fun hd => evOps_ok hP hi hd h
    | loop D c σ0 more done => exact fun hg => evLoop_ok hi hg h
/-- A call, by the evaluator. -/
theorem ev_call (hP : PrgOk P R) {n : Nat} {f : FuncId} {args : List AV} {h : BT AObj} {m : Nat} {l : Ends} (k : evFn R (ev R n) f args ⟨.nil, h, m⟩ = some l) : NCall P f args (heapOf h m) (endsH l) := (evFn_ok hP (ev_sound hP n) k).2
end Go.Ab
end
