/- A part of a proof: rules for reading Go code as code over plain values, and what follows for this program. Its conditions stand in each statement. -/
import Derived.Test.YtackcjahocaonaaGreatDoorEvD
section
set_option linter.unusedSimpArgs false
set_option linter.unusedVariables false
namespace Go.Ab
variable {P : Program} {R : Prg} {N : Fr} {ih : Ev} {all : Array Oper} {o : Oper} {rest : List Oper} {cls : Option RS} {σ : St} {outs : Outs}
/-! ### One operation, then the others -/
theorem cls_head {hs : Option (BT AObj)} {cl : List Nat} {c : Nat → Nat} {k : Nat} {o : Oper} {rest : List Oper} (hc : ∀ j, j < (o :: rest).length → c (k + j) = clsOf cl j) : c k = headC (some (hs, cl)) := by
  have := hc 0 (by simp)
  rw [Nat.add_zero] at this
  rw [this]
  cases cl <;> rfl
theorem cls_tail {hs : Option (BT AObj)} {cl : List Nat} {c : Nat → Nat} {k : Nat} {o : Oper} {rest : List Oper} (hc : ∀ j, j < (o :: rest).length → c (k + j) = clsOf cl j) : ∃ hs' cl', tailC (some (hs, cl)) = some (hs', cl') ∧ (∀ j, j < rest.length → c (k + 1 + j) = clsOf cl' j) ∧ ∀ x, hs' = some x → hs = some x ∧ keepsC (headC (some (hs, cl))) = true := by
  cases cl with
  | nil => exact ⟨none, [], rfl, fun j hj => by have := hc (j + 1) (by simpa using hj); rw [show k + 1 + j = k + (j + 1) by omega, this]; rfl, fun x h => by cases h⟩
  | cons x cl =>
    have ht : ∀ j, j < rest.length → c (k + 1 + j) = clsOf cl j := fun j hj => by have := hc (j + 1) (by simpa using hj); rw [show k + 1 + j = k + (j + 1) by omega, this]; simp [clsOf]
    simp only [tailC]
    split
    · rename_i hk; exact ⟨hs, cl, rfl, ht, fun y hy => ⟨hy, hk⟩⟩
    · exact ⟨none, cl, rfl, ht, fun y hy => by cases hy⟩
theorem keepsC_cases {c : Nat} (h : keepsC c = true) : c = 0 ∨ c = 1 ∨ c = 3 ∨ c = 4 := by
  simp only [keepsC, Bool.or_eq_true, ble_le, Nat.beq_eq] at h
  omega
theorem gate_some {cls : Option RS} {r : Option Outs} {outs : Outs} (h : gate cls r = some outs) : r = some outs ∧ (headC cls = 3 ∨ headC cls = 4 → ∃ hs, curS cls = some hs) := by
  unfold gate at h
  split at h
  · exact ⟨h, fun h4 => by rcases h4 with h4 | h4 <;> cases h4⟩
  · exact ⟨h, fun _ => ⟨_, rfl⟩⟩
  · exact ⟨h, fun h4 => by rcases h4 with h4 | h4 <;> cases h4⟩
  · split at h
    · cases h
    · rename_i hb
      refine ⟨h, fun h4 => ?_⟩
      simp only [headC] at h4
      rcases h4 with rfl | rfl <;> simp at hb
theorem all_tail {k : Nat} (hl : ∀ j, (o :: rest)[j]? = all[k + j]?) : all[k]? = some o ∧ ∀ j, rest[j]? = all[k + 1 + j]? :=
  ⟨by simpa using (hl 0).symm, fun j => by have := hl (j + 1); simpa [Nat.add_assoc, Nat.add_comm 1 j] using this⟩
theorem ops_gen {v : AV} {h' : BT AObj} {n' : Nat} (hd : dstOk N o.dst)
    (hs : cls = none → ∀ e, Repr e σ.e → ∀ Q : Post, SOPS P N all rest (e.put o.dst v) (heapOf h' n') Q → SOPS P N all (o :: rest) e (heapOf σ.h σ.n) Q)
    (hx : ∀ e, Repr e σ.e → ∀ i, all[i]? = some o → LStep P N all i o e (heapOf σ.h σ.n) v (heapOf h' n'))
    (hq : headC cls = 0 → heapOf h' n' = heapOf σ.h σ.n ∧ ∀ e, Repr e σ.e → ∀ H i, all[i]? = some o → LStep P N all i o e H v H)
    (h1 : headC cls = 1 → heapOf h' n' = heapOf σ.h σ.n)
    (h3 : headC cls = 3 → heapOf h' n' = heapOf σ.h σ.n ∧ ∃ hs, curS cls = some hs ∧ ∀ e, Repr e σ.e → ∀ H, HOk hs H → ∀ i, all[i]? = some o → LStep P N all i o e H v H)
    (h4 : headC cls = 4 → ∃ hs, curS cls = some hs ∧ (HOk hs (heapOf σ.h σ.n) → HOk hs (heapOf h' n')))
    (k : OpsOk P N all rest (tailC cls) ⟨putT σ.e o.dst v, h', n'⟩ outs) : OpsOk P N all (o :: rest) cls σ outs := by
  cases cls with
  | none => exact fun e he => hs rfl e he _ (k (e.put o.dst v) (he.put _ _))
  | some cl =>
    obtain ⟨hs0, cl⟩ := cl
    intro S q c hS hl hc e he
    obtain ⟨h0, hl'⟩ := all_tail hl
    obtain ⟨hs', cl', ht, hc', hkeep⟩ := cls_tail (hs := hs0) hc
    rw [ht] at k
    have hh := cls_head (hs := hs0) hc
    have hcur : ∀ x, curS (some (hs0, cl)) = some x → hs0 = some x := fun x hx => by
      unfold curS at hx
      split at hx
      · rename_i e1; cases e1; exact hx
      · cases hx
    have hS' : ∀ x, hs' = some x → S = HOk x ∧ HOk x (heapOf h' n') := fun x hx => by
      obtain ⟨k1, k2⟩ := hkeep x hx
      obtain ⟨s1, s2⟩ := hS x k1
      refine ⟨s1, ?_⟩
      rcases keepsC_cases k2 with k2 | k2 | k2 | k2
      · rw [(hq k2).1]; exact s2
      · rw [h1 k2]; exact s2
      · rw [(h3 k2).1]; exact s2
      · obtain ⟨y, hy, hk⟩ := h4 k2
        have := hcur y hy
        rw [k1] at this
        cases this
        exact hk s2
    obtain ⟨τ, ef, rfl, hef, htr⟩ := k S (q + 1) c hS' hl' hc' (e.put o.dst v) (he.put _ _)
    refine ⟨τ, ef, rfl, hef, v, _, ⟨hd, hx e he q h0, fun h00 => ?_, fun h11 => ?_, fun h33 => ?_, fun h44 => ?_⟩, htr⟩
    · rw [hh] at h00
      obtain ⟨a1, a2⟩ := hq h00
      exact ⟨a1, fun H2 => a2 e he H2 q h0⟩
    · rw [hh] at h11
      exact h1 h11
    · rw [hh] at h33
      obtain ⟨a1, y, a2, a3⟩ := h3 h33
      obtain ⟨s1, _⟩ := hS y (hcur y a2)
      exact ⟨a1, fun H2 h2 => a3 e he H2 (by rw [s1] at h2; exact h2) q h0⟩
    · rw [hh] at h44
      obtain ⟨y, a2, a3⟩ := h4 h44
      obtain ⟨s1, s2⟩ := hS y (hcur y a2)
      rw [s1]
      exact ⟨s2, a3 s2⟩
/-- One that asks no object at all. -/
theorem ops_all {v : AV} (hd : dstOk N o.dst) (hg : headC cls = 3 ∨ headC cls = 4 → ∃ hs, curS cls = some hs)
    (hs : cls = none → ∀ e, Repr e σ.e → ∀ Q : Post, SOPS P N all rest (e.put o.dst v) (heapOf σ.h σ.n) Q → SOPS P N all (o :: rest) e (heapOf σ.h σ.n) Q)
    (hx : ∀ e, Repr e σ.e → ∀ H i, all[i]? = some o → LStep P N all i o e H v H)
    (k : OpsOk P N all rest (tailC cls) ⟨putT σ.e o.dst v, σ.h, σ.n⟩ outs) : OpsOk P N all (o :: rest) cls σ outs :=
  ops_gen hd hs (fun e he => hx e he _) (fun _ => ⟨rfl, hx⟩) (fun _ => rfl) (fun h => by
    obtain ⟨y, hy⟩ := hg (.inl h)
    exact ⟨rfl, y, hy, fun e he H _ => hx e he H⟩) (fun h => by
    obtain ⟨y, hy⟩ := hg (.inr h)
    exact ⟨y, hy, id⟩) k
theorem ops_do {v : AV} {eff : Eff} (hw : ∀ e, Repr e σ.e → Want all o e true) (hd : dstOk N o.dst)
    (hx : ∀ e, Repr e σ.e → ∀ e' : Env, (∀ s ∈ o.looksAt all, e'.get s = e.get s) → Exec P o e' (heapOf σ.h σ.n) v (eff.app (heapOf σ.h σ.n)))
    (hq : headC cls = 0 → eff = .keep ∧ ∀ e, Repr e σ.e → ∀ H, ∀ e' : Env, (∀ s ∈ o.looksAt all, e'.get s = e.get s) → Exec P o e' H v H)
    (h1 : headC cls = 1 → eff = .keep)
    (h3 : headC cls = 3 → eff = .keep ∧ ∃ hs, curS cls = some hs ∧ ∀ e, Repr e σ.e → ∀ H, HOk hs H → ∀ e' : Env, (∀ s ∈ o.looksAt all, e'.get s = e.get s) → Exec P o e' H v H)
    (h4 : headC cls = 4 → ∃ hs, curS cls = some hs ∧ (HOk hs (heapOf σ.h σ.n) → HOk hs (eff.app (heapOf σ.h σ.n))))
    (k : OpsOk P N all rest (tailC cls) ⟨putT σ.e o.dst v, effT σ.h σ.n eff, effN σ.n eff⟩ outs) : OpsOk P N all (o :: rest) cls σ outs := by
  refine ops_gen hd (fun _ e he Q hk => ?_) (fun e he i hi => ?_) (fun h0 => ?_) (fun h0 => ?_) (fun h0 => ?_) (fun h0 => ?_) k
  · rw [heapOf_eff] at hk
    exact sops_nexec (hw e he) hd (hx e he e (fun _ _ => rfl)).toN (fun y hy => by rw [List.mem_singleton] at hy; subst hy; exact hk)
  · rw [heapOf_eff]
    exact lstep_want hi (hw e he) (hx e he)
  · obtain ⟨rfl, hq'⟩ := hq h0
    exact ⟨rfl, fun e he H i hi => lstep_want hi (hw e he) (hq' e he H)⟩
  · rw [h1 h0]; rfl
  · obtain ⟨rfl, y, a1, a2⟩ := h3 h0
    exact ⟨rfl, y, a1, fun e he H hH i hi => lstep_want hi (hw e he) (a2 e he H hH)⟩
  · rw [heapOf_eff]; exact h4 h0
theorem ops_skip (hw : ∀ e, Repr e σ.e → Want all o e false) (hd : dstOk N o.dst) (hg : headC cls = 3 ∨ headC cls = 4 → ∃ hs, curS cls = some hs) (k : OpsOk P N all rest (tailC cls) ⟨putT σ.e o.dst (.tup []), σ.h, σ.n⟩ outs) : OpsOk P N all (o :: rest) cls σ outs :=
  ops_all hd hg (fun _ e he Q hk => _root_.Go.Ab.sops_skip (hw e he) hd hk) (fun e he H i hi => lstep_skip hi (hw e he)) k
theorem ops_dcall {c : Call} {f : FuncId} {args : List AV} {r : AV} {h' : BT AObj} {n' : Nat} (ho : o.op = .call c) (hc : callsR σ.e c = some (f, args)) (hw : ∀ e, Repr e σ.e → Want all o e true) (hd : dstOk N o.dst) (hf : DCall P f args (heapOf σ.h σ.n) (.ret r) (heapOf h' n'))
    (hq : headC cls = 2 ∨ (headC cls = 1 ∧ heapOf h' n' = heapOf σ.h σ.n))
    (k : OpsOk P N all rest (tailC cls) ⟨putT σ.e o.dst r, h', n'⟩ outs) : OpsOk P N all (o :: rest) cls σ outs := by
  refine ops_gen hd (fun _ e he Q hk => sops_ncall ho (hw e he) hd (callsR_eq he hc) hf.toN (fun y hy => by rw [List.mem_singleton] at hy; subst hy; exact hk))
    (fun e he i hi => lstep_ncall hi (hw e he) ho (callsR_eq he hc) hf) (fun h0 => ?_) (fun h0 => ?_) (fun h0 => ?_) (fun h0 => ?_) k
  · rcases hq with hq | ⟨hq, _⟩ <;> rw [hq] at h0 <;> cases h0
  · rcases hq with hq | ⟨hq, h1⟩
    · rw [hq] at h0; cases h0
    · exact h1
  · rcases hq with hq | ⟨hq, _⟩ <;> rw [hq] at h0 <;> cases h0
  · rcases hq with hq | ⟨hq, _⟩ <;> rw [hq] at h0 <;> cases h0
theorem ops_pure {c : Call} {f : FuncId} {args : List AV} {r : AV} (ho : o.op = .call c) (hc : callsR σ.e c = some (f, args)) (hw : ∀ e, Repr e σ.e → Want all o e true) (hd : dstOk N o.dst) (hg : headC cls = 3 ∨ headC cls = 4 → ∃ hs, curS cls = some hs) (hf : PureFn P f args r)
    (k : OpsOk P N all rest (tailC cls) ⟨putT σ.e o.dst r, σ.h, σ.n⟩ outs) : OpsOk P N all (o :: rest) cls σ outs :=
  ops_all hd hg (fun _ e he Q hk => sops_ncall ho (hw e he) hd (callsR_eq he hc) (hf _).toN (fun y hy => by rw [List.mem_singleton] at hy; subst hy; exact hk))
    (fun e he H i hi => lstep_ncall hi (hw e he) ho (callsR_eq he hc) (hf H)) k
theorem kept_some {r : R1} {v : AV} {eff : Eff} (h : r.kept = some (v, eff)) : r = some (v, .keep) ∧ eff = .keep := by
  unfold R1.kept at h
  split at h
  · cases h; exact ⟨rfl, rfl⟩
  · cases h
theorem chk4_some {hs : BT AObj} {n : Nat} {r : R1} {v : AV} {eff : Eff} (h : chk4 hs n r = some (v, eff)) : r = some (v, eff) ∧ ∀ H : Heap, H.length = n → HOk hs H → HOk hs (eff.app H) := by
  unfold chk4 at h
  split at h
  · cases h; exact ⟨rfl, fun H _ k => k⟩
  · split at h
    · rename_i hd
      cases h
      refine ⟨rfl, fun H hl k id hid => ?_⟩
      simp only [app_push, List.length_append, List.length_cons, List.length_nil] at hid ⊢
      by_cases hlt : id < H.length
      · rw [List.getElem?_append_left hlt]; exact k id hlt
      · have : id = n := by omega
        subst this
        exact .inl hd
    · cases h
  · split at h
    · rename_i hd
      cases h
      refine ⟨rfl, fun H hl k id hid => ?_⟩
      simp only [app_set, List.length_set] at hid ⊢
      rw [List.getElem?_set]
      split
      · rename_i e; subst e; exact .inl hd
      · exact k id hid
    · cases h
  · cases h
theorem evPlain_ok (hP : PrgOk P R) (hih : Holy P ih) (hw : ∀ e, Repr e σ.e → Want all o e true) (hd : ∀ o' ∈ o :: rest, dstOk N o'.dst) (h : evPlain R ih all o rest cls σ = some outs) : OpsOk P N all (o :: rest) cls σ outs := by
  have hd0 := hd o List.mem_cons_self
  have hdr : ∀ o' ∈ rest, dstOk N o'.dst := fun o' h => hd o' (List.mem_cons_of_mem _ h)
  have no : ∀ {a b : Nat} {X : Prop}, headC cls = a → headC cls = b → a ≠ b → X := fun h1 h2 h3 => absurd (h1.symm.trans h2) h3
  unfold evPlain at h
  split at h
  · rename_i hc
    obtain ⟨v, eff, hr, hk⟩ := plainK_eq h
    obtain ⟨hr', rfl⟩ := kept_some hr
    exact ops_do (eff := .keep) hw hd0 (fun e he => plain_exec hP.T he (hok_nil _) (.inr rfl) hr') (fun _ => ⟨rfl, fun e he H => plain_exec hP.T he (hok_nil _) (.inr rfl) hr'⟩) (fun _ => rfl) (fun h => no hc h (by decide)) (fun h => no hc h (by decide)) (hih _ _ _ hk N hdr)
  · rename_i hc
    obtain ⟨v, eff, hr, hk⟩ := plainK_eq h
    obtain ⟨hr', rfl⟩ := kept_some hr
    exact ops_do (eff := .keep) hw hd0 (fun e he => plain_exec hP.T he (hok_heap _ _) (.inr rfl) hr') (fun h => no hc h (by decide)) (fun _ => rfl) (fun h => no hc h (by decide)) (fun h => no hc h (by decide)) (hih _ _ _ hk N hdr)
  · rename_i hc
    split at h
    · rename_i hs hcur
      obtain ⟨v, eff, hr, hk⟩ := plainK_eq h
      obtain ⟨hr', rfl⟩ := kept_some hr
      have hst : ∀ e, Repr e σ.e → ∀ H, HOk hs H → ∀ e' : Env, (∀ s ∈ o.looksAt all, e'.get s = e.get s) → Exec P o e' H v H := fun e he H hH => plain_exec hP.T he hH (.inr rfl) hr'
      -- what stands now is among what is known
      cases cls with
      | none => cases hcur
      | some cl =>
        intro S q c hS hl hcl e he
        obtain ⟨hs0, cl⟩ := cl
        have e0 : hs0 = some hs := by
          unfold curS at hcur
          split at hcur
          · rename_i e1; cases e1; exact hcur
          · cases hcur
        obtain ⟨_, s2⟩ := hS hs e0
        exact ops_do (cls := some (hs0, cl)) (eff := .keep) hw hd0 (fun e he => hst e he _ s2) (fun h => no hc h (by decide)) (fun _ => rfl) (fun _ => ⟨rfl, hs, hcur, hst⟩) (fun h => no hc h (by decide)) (hih _ _ _ hk N hdr) S q c hS hl hcl e he
    · cases h
  · rename_i hc
    split at h
    · rename_i hs hcur
      obtain ⟨v, eff, hr, hk⟩ := plainK_eq h
      obtain ⟨hr', hh⟩ := chk4_some hr
      exact ops_do hw hd0 (fun e he => plain_exec hP.T he (hok_heap _ _) (.inl (by simp)) hr') (fun h => no hc h (by decide)) (fun h => no hc h (by decide)) (fun h => no hc h (by decide)) (fun _ => ⟨hs, hcur, hh _ (by simp)⟩) (hih _ _ _ hk N hdr)
    · cases h
  · rename_i hc
    obtain ⟨v, eff, hr, hk⟩ := plainK_eq h
    exact ops_do hw hd0 (fun e he => plain_exec hP.T he (hok_heap _ _) (.inl (by simp)) hr) (fun h => no hc h (by decide)) (fun h => no hc h (by decide)) (fun h => no hc h (by decide)) (fun h => no hc h (by decide)) (hih _ _ _ hk N hdr)
  · cases h
theorem evMove_ok (hP : PrgOk P R) (hih : Holy P ih) {x : Operand} (ho : o.op = .move x ∨ o.op = .assign x) (hw : ∀ e, Repr e σ.e → Want all o e true) (hd : ∀ o' ∈ o :: rest, dstOk N o'.dst) (h : evMove ih all o rest cls σ (ev1 σ.e x) = some outs) : OpsOk P N all (o :: rest) cls σ outs := by
  have hd0 := hd o List.mem_cons_self
  have hdr : ∀ o' ∈ rest, dstOk N o'.dst := fun o' h => hd o' (List.mem_cons_of_mem _ h)
  unfold evMove at h
  obtain ⟨h, hg⟩ := gate_some h
  rw [putE_eq] at h
  have hr : evOp R.T o.op σ.e .nil 0 = some (ev1 σ.e x, .keep) := by rcases ho with ho | ho <;> rw [ho] <;> rfl
  have hx : ∀ e, Repr e σ.e → ∀ H, ∀ e' : Env, (∀ s ∈ o.looksAt all, e'.get s = e.get s) → Exec P o e' H (ev1 σ.e x) H := fun e he H => plain_exec hP.T he (hok_nil _) (.inr rfl) hr
  exact ops_all hd0 hg (fun _ e he Q hk => sops_nexec (hw e he) hd0 (hx e he _ e (fun _ _ => rfl)).toN (fun y hy => by rw [List.mem_singleton] at hy; subst hy; exact hk)) (fun e he H i hi => lstep_want hi (hw e he) (hx e he H)) (hih _ _ _ h N hdr)
/-! ### Calls -/
noncomputable def endsH (l : Ends) : List (AEnd × Heap) := l.map fun y => (y.1, heapOf y.2.h y.2.n)
theorem goEnd_some {cl : Option RS} {y : AEnd × St} {s : Outs} (h : goEnd ih all o rest cl y = some s) : (∃ v, y.1 = .ret v ∧ ih (.ops all rest cl) ⟨putT y.2.e o.dst v, y.2.h, y.2.n⟩ = some s) ∨ (∃ x, y.1 = .panic x ∧ cl = none ∧ s = [(.panic x, y.2)]) := by
  unfold goEnd at h
  split at h
  · rename_i v hv
    rw [avK_eq, putE_eq] at h
    exact .inl ⟨v, hv, h⟩
  · rename_i x hx
    split at h
    · cases h; exact .inr ⟨x, hx, rfl, rfl⟩
    · cases h
theorem goEnds_ok (hih : Holy P ih) {c : Call} {f : FuncId} {args : List AV} {l : Ends} (ho : o.op = .call c) (hc : callsR σ.e c = some (f, args)) (hw : ∀ e, Repr e σ.e → Want all o e true) (hd : ∀ o' ∈ o :: rest, dstOk N o'.dst) (he0 : ∀ y ∈ l, y.2.e = σ.e)
    (hn : NCall P f args (heapOf σ.h σ.n) (endsH l)) (h2 : headC cls = 2) (h : goEnds ih all o rest (tailC cls) l = some outs) : OpsOk P N all (o :: rest) cls σ outs := by
  have hd0 := hd o List.mem_cons_self
  have hdr : ∀ o' ∈ rest, dstOk N o'.dst := fun o' h => hd o' (List.mem_cons_of_mem _ h)
  cases cls with
  | none =>
    intro e he
    refine sops_ncall ho (hw e he) hd0 (callsR_eq he hc) hn fun y hy => ?_
    obtain ⟨z, hz, rfl⟩ := List.mem_map.1 hy
    obtain ⟨s, hs, hsub⟩ := allM_mem _ _ h z hz
    have hez := he0 z hz
    rcases goEnd_some hs with ⟨v, hv, hk⟩ | ⟨x, hx, _, rfl⟩
    · simp only [hv]
      have := hih _ _ _ hk N hdr (e.put o.dst v) (by rw [hez]; exact he.put _ _)
      exact fun G a w h1 h2 => wpList_mono (fun _ _ _ k => k.mono fun _ _ _ => outQ_sub hsub) _ _ _ (this G a w h1 h2)
    · simp only [hx]
      exact ⟨z.2, hsub _ List.mem_cons_self, by rw [hez]; exact he, rfl⟩
  | some cl =>
    cases ht : tailC (some cl) with
    | none =>
      exfalso
      obtain ⟨hs0, cl⟩ := cl
      cases cl with
      | nil => cases ht
      | cons c r => simp only [tailC] at ht; split at ht <;> cases ht
    | some cl' =>
      rw [ht] at h
      simp only [goEnds] at h
      split at h
      · rename_i y
        rcases goEnd_some h with ⟨v, hv, hk⟩ | ⟨x, hx, hcl, _⟩
        · have hez := he0 y List.mem_cons_self
          rw [hez] at hk
          have hD : DCall P f args (heapOf σ.h σ.n) (.ret v) (heapOf y.2.h y.2.n) := NCall.toD (by rw [← hv]; exact hn)
          refine ops_dcall ho hc hw hd0 hD (.inl h2) ?_
          rw [ht]
          exact hih _ _ _ hk N hdr
        · cases hcl
      · cases h
/-! ### A function -/
def FinOk (P : Program) (fn : Func) (H : Heap) (ends : List (AEnd × Heap)) : Post := fun x e1 H1 => match x with
  | .normal | .ret => ∃ v H2, (AEnd.ret v, H2) ∈ ends ∧ RetOk P fn H e1 H1 v H2
  | .panic y => (AEnd.panic y, H1) ∈ ends
  | _ => False
theorem ncall_of_body {f : FuncId} {fn : Func} {c : Code} {args : List AV} {H : Heap} {ends : List (AEnd × Heap)} (hf : P.funcs[f]? = some fn) (hb : fn.body = some c) (hn : args.length ≤ fn.ntmps) (hen : P.enters f = true)
    (h : AWP P fn.ntmps c (argEnv 0 args) H (FinOk P fn H ends)) : NCall P f args H ends := by
  refine ⟨hen, ?_⟩
  intro G w cargs hR hs hc
  refine calls_of_wp hf hb (wp_mono (h G _ w hR (.start hs hc hn)) ?_)
  rintro x a' w' ⟨ax, e', H', G', hx, hq, hR', hE', hst⟩
  have fin : (ax = .normal ∨ ax = .ret) → ∃ u, (results fn a'.tmps).run P w' = .ok u w' ∧ ∃ y ∈ ends, ∃ G', ERel y.2.length G' y.1 (.returned u) ∧ Rel G' y.2 w' ∧ Step H.length y.2.length G w G' w' := by
    intro hax
    have hq' : ∃ v H2, (AEnd.ret v, H2) ∈ ends ∧ RetOk P fn H e' H' v H2 := by rcases hax with rfl | rfl <;> exact hq
    obtain ⟨v, H2, hm, v0, h1, h2⟩ := hq'
    obtain ⟨u, hu, hv⟩ := run_results (P := P) hR' hE' h1
    refine ⟨u, hu, _, hm, ?_⟩
    rcases h2 with ⟨rfl, rfl⟩ | ⟨hl, h2⟩
    · exact ⟨G', hv, hR', hst⟩
    · obtain ⟨G2, k1, k2, k3⟩ := h2 G' w' u hR' hv
      exact ⟨G2, k1, k2, (hst.trans ⟨k3, rfl, rfl, rfl, Nat.le_refl _⟩).lower (by rw [hl]; exact Nat.le_refl _)⟩
  cases x with
  | normal =>
    cases ax <;> simp only [XRel] at hx
    obtain ⟨u, hu, hk⟩ := fin (.inl rfl)
    exact ⟨hE'.defers, u, hu, hk⟩
  | ret =>
    cases ax <;> simp only [XRel] at hx
    obtain ⟨u, hu, hk⟩ := fin (.inr rfl)
    exact ⟨hE'.defers, u, hu, hk⟩
  | panic ch =>
    cases ax with
    | panic y =>
      match ch, hx with
      | [c], hx => exact ⟨hE'.defers, _, hq, G', hx, hR', hst⟩
    | _ => exact hx.elim
  | exit i => cases ax <;> first | exact hx.elim | exact hq.elim
  | goto i => cases ax <;> first | exact hx.elim | exact hq.elim
  | outgrown => cases ax <;> exact hx.elim
theorem argK_spec : ∀ (l : List AV) (i : Nat) (t : BT AV), ∃ t', (∀ (X : Type) (k : BT AV → X), argK l i t k = k t') ∧ ∀ s, slot t' s = if i ≤ s ∧ s < i + l.length then (l[s - i]?).getD .junk else slot t s := by
  intro l
  induction l with
  | nil => intro i t; exact ⟨t, fun X k => rfl, fun s => by rw [if_neg (by simp)]⟩
  | cons x l hi =>
    intro i t
    obtain ⟨t', h1, h2⟩ := hi (i + 1) (BT.slow .junk x t i)
    refine ⟨t', fun X k => ?_, fun s => ?_⟩
    · change BT.putK .junk x 24 t i (fun t' => argK l (Nat.succ i) t' k) = _
      rw [putK_eq]
      exact h1 X k
    · rw [h2 s]
      have hs : slot (BT.slow .junk x t i) s = if s = i then x else slot t s := slow_get _ _ _ _ _
      rw [hs]
      simp only [List.length_cons]
      by_cases he : s = i
      · subst he
        rw [if_neg (by omega), if_pos rfl, if_pos (by omega), Nat.sub_self]
        rfl
      · rw [if_neg he]
        by_cases hr : i + 1 ≤ s ∧ s < i + 1 + l.length
        · rw [if_pos hr, if_pos (by omega), show s - i = (s - (i + 1)) + 1 by omega, List.getElem?_cons_succ]
        · rw [if_neg hr, if_neg (by omega)]
theorem arg_repr {l : List AV} {t' : BT AV} (h : ∀ s, slot t' s = if 0 ≤ s ∧ s < 0 + l.length then (l[s - 0]?).getD .junk else slot .nil s) : Repr (argEnv 0 l) t' := by
  intro s
  rw [argEnv_get, if_pos (Nat.zero_le _), h s]
  by_cases hs : 0 ≤ s ∧ s < 0 + l.length
  · rw [if_pos hs]
  · rw [if_neg hs, Nat.sub_zero, List.getElem?_eq_none (by omega)]
    rfl
theorem resR_eq (hT : R.T.Ok P) {e : Env} {τ : St} (he : Repr e τ.e) : ∀ (rs : List ResultVar) (xs : List AV), resRs R.T τ rs = some xs → resVars P e (heapOf τ.h τ.n) rs = some xs := by
  intro rs
  induction rs with
  | nil => intro xs h; exact h
  | cons r rs hi =>
    intro xs h
    simp only [resRs] at h
    split at h
    · rename_i x xs' h1 h2
      cases h
      have : resVar P e (heapOf τ.h τ.n) r = some x := by
        unfold resR at h1
        unfold resVar
        split at h1
        · cases h1; simp only; rw [he]
        · rename_i a ty
          simp only
          rw [he a]
          split at h1
          · rename_i id off hp
            rw [hp]
            simp only
            split at h1
            · rename_i hlt
              rw [blt_lt] at hlt
              rw [heapOf_get _ _ _ hlt]
              split at h1
              · rename_i q cs ho
                rw [ho]
                exact partT_eq hT h1
              · cases h1
            · cases h1
          · cases h1
      simp only [resVars, this, hi _ h2]
    · cases h
theorem endsOf_mem {T : Tab} {c : FnC} {e0 : BT AV} {n0 : Nat} : ∀ (l : Outs) (r : Ends), endsOf T c e0 n0 l = some r → ∀ y ∈ l, ∃ z ∈ r, endOf T c e0 n0 y.1 y.2 = some z := by
  intro l
  induction l with
  | nil => intro r h y hy; cases hy
  | cons a l hi =>
    intro r h y hy
    simp only [endsOf] at h
    split at h
    · rename_i z rest h1 h2
      cases h
      rcases List.mem_cons.1 hy with rfl | hy
      · exact ⟨z, List.mem_cons_self, h1⟩
      · obtain ⟨z', h3, h4⟩ := hi _ h2 y hy
        exact ⟨z', List.mem_cons_of_mem _ h3, h4⟩
    · cases h
theorem endsOf_back {T : Tab} {c : FnC} {e0 : BT AV} {n0 : Nat} : ∀ (l : Outs) (r : Ends), endsOf T c e0 n0 l = some r → ∀ z ∈ r, ∃ y ∈ l, endOf T c e0 n0 y.1 y.2 = some z := by
  intro l
  induction l with
  | nil => intro r h y hy; cases h; cases hy
  | cons a l hi =>
    intro r h z hz
    simp only [endsOf] at h
    split at h
    · rename_i z' rest h1 h2
      cases h
      rcases List.mem_cons.1 hz with rfl | hz
      · exact ⟨a, List.mem_cons_self, h1⟩
      · obtain ⟨y, h3, h4⟩ := hi _ h2 z hz
        exact ⟨y, List.mem_cons_of_mem _ h3, h4⟩
    · cases h
theorem finK_e {gc : Bool} {e0 : BT AV} {n0 : Nat} {v : AV} {h : BT AObj} {n : Nat} : (finK gc e0 n0 v h n).2.e = e0 := by
  unfold finK
  repeat' split
  all_goals rfl
theorem finK_ok {fn : Func} {gc : Bool} {e0 : BT AV} {n0 : Nat} {h : BT AObj} {n : Nat} {h0 : BT AObj} {e1 : Env} {v0 : AV} (hr : resAV P fn.results.toList e1 (heapOf h n) = some v0) :
    RetOk P fn (heapOf h0 n0) e1 (heapOf h n) (finK gc e0 n0 v0 h n).1 (heapOf (finK gc e0 n0 v0 h n).2.h (finK gc e0 n0 v0 h n).2.n) := by
  have same : RetOk P fn (heapOf h0 n0) e1 (heapOf h n) v0 (heapOf h n) := ⟨v0, hr, .inl ⟨rfl, rfl⟩⟩
  unfold finK
  split
  · exact same
  · split
    · rename_i y hy
      split
      · rename_i a b ha hb
        split
        · rename_i hc
          simp only [Bool.and_eq_true, ble_le] at hc
          obtain ⟨⟨h1, h2⟩, h3⟩ := hc
          refine ⟨v0, hr, .inr ⟨by simp, fun G w u hR hv => ?_⟩⟩
          obtain ⟨L, hL⟩ := heapOf_split h h3
          have hob := (maxObjs_spec h _ _ _ hb).2
          have hu : ∀ o ∈ heapOf h n0, o.under (heapOf h n0).length := fun o ho => by
            simp only [heapOf, List.mem_map, List.mem_range] at ho
            obtain ⟨id, hid, rfl⟩ := ho
            rw [heapOf_length]
            exact AObj.umono h2 (hob id hid)
          have hV := sealF_V hR (hok_heap h n) 8 v0 y u hy hv
          refine ⟨G.snapAll (heapOf h n) w n0, V.lower _ _ ?_ hV, ?_, snapAll_ext hR _ _⟩
          · simp only [heapOf_length]
            exact AV.umono h1 _ (AV.maxF_spec _ _ _ ha)
          · have hR' := hR
            rw [hL] at hR' ⊢
            have := hR'.sealRest hu
            rw [heapOf_length] at this
            exact this
        · exact same
      · exact same
    · exact same
theorem dedupEnds_spec (l : Ends) : (∀ y ∈ l, ∃ z ∈ dedupEnds l, z.1 = y.1 ∧ z.2.e = y.2.e ∧ heapOf y.2.h y.2.n = heapOf z.2.h z.2.n) ∧ ∀ z ∈ dedupEnds l, z ∈ l := by
  unfold dedupEnds
  split
  · exact ⟨fun y hy => (by cases hy), fun z hz => hz⟩
  · exact ⟨fun y hy => ⟨y, hy, rfl, rfl, rfl⟩, fun z hz => hz⟩
  · refine ⟨fun y hy => ?_, dedup_sub l⟩
    exact dedup_cov (α := AEnd × St) (R := fun y z => z.1 = y.1 ∧ z.2.e = y.2.e ∧ heapOf y.2.h y.2.n = heapOf z.2.h z.2.n) (fun x => ⟨rfl, rfl, rfl⟩) (fun x y z h k => ⟨k.1.trans h.1, k.2.1.trans h.2.1, h.2.2.trans k.2.2⟩) (fun a b h => by
      simp only [Bool.and_eq_true, Nat.beq_eq] at h
      obtain ⟨⟨⟨h1, h2⟩, h3⟩, h4⟩ := h
      exact ⟨(AEnd.beqE_eq h1).symm, (beqEnv_eq _ _ h3).symm, by rw [← h2]; exact heapOf_congr (beqObjs_eq _ _ _ h4)⟩) l y hy
theorem allM_back {α β : Type} {f : α → Option (List β)} : ∀ (l : List α) (r : List β), allM f l = some r → ∀ z ∈ r, ∃ x ∈ l, ∃ s, f x = some s ∧ z ∈ s := by
  intro l
  induction l with
  | nil => intro r h z hz; cases h; cases hz
  | cons a l ih =>
    intro r h z hz
    cases l with
    | nil => exact ⟨a, List.mem_cons_self, r, h, hz⟩
    | cons b l =>
      rw [allM] at h
      rotate_left
      · simp
      split at h
      · rename_i s t hs ht
        cases h
        rcases List.mem_append.1 hz with hz | hz
        · exact ⟨a, List.mem_cons_self, s, hs, hz⟩
        · obtain ⟨x, hx, s', h1, h2⟩ := ih t ht z hz
          exact ⟨x, List.mem_cons_of_mem _ hx, s', h1, h2⟩
      · cases h
theorem endD_some {T : Tab} {c : FnC} {e0 : BT AV} {n0 : Nat} {te : BT AV} {y : AX × St} {s : Ends} (h : endD T c e0 n0 te y = some s) : (y.1 = .normal ∨ y.1 = .ret) ∧ ∃ xs, resRs T ⟨te, y.2.h, y.2.n⟩ c.results = some xs ∧ s = [(.ret (finK c.gc e0 n0 (tupOf xs) y.2.h y.2.n).1, (finK c.gc e0 n0 (tupOf xs) y.2.h y.2.n).2)] := by
  unfold endD at h
  split at h
  · rename_i hy
    split at h
    · rename_i xs hxs
      cases h
      exact ⟨.inl hy, xs, hxs, rfl⟩
    · cases h
  · rename_i hy
    split at h
    · rename_i xs hxs
      cases h
      exact ⟨.inr hy, xs, hxs, rfl⟩
    · cases h
  · cases h
theorem evFnD_ok (hP : PrgOk P R) (hih : Holy P ih) {f : FuncId} {fn : Func} {c : FnC} {d : DfC} {args : List AV} {l : Ends} (hf : P.funcs[f]? = some fn) (hN : fn.ntmps = c.ntmps) (hres : fn.results.toList = c.results) (hen : P.enters f = true) (hd : DfOk P fn c d) (hlen : args.length ≤ fn.ntmps)
    (h : evFnD R ih c d args σ = some l) : (∀ y ∈ l, y.2.e = σ.e) ∧ ∀ ends, (∀ z ∈ l, (z.1, heapOf z.2.h z.2.n) ∈ ends) → NCall P f args (heapOf σ.h σ.n) ends := by
  have hd' := hd
  obtain ⟨_, _, _, _, _, _, _, _, _, _, _, _, _, _, hg1, hg2, _, _, _, _, _, _, _, _, _, _, hg3⟩ := hd'
  unfold evFnD at h
  obtain ⟨t', ht1, ht2⟩ := argK_spec args 0 .nil
  rw [ht1] at h
  split at h
  · rename_i τ1 hpre
    rw [putE_eq] at h
    split at h
    · rename_i outs hrest
      refine ⟨fun z hz => ?_, fun ends hsub => ?_⟩
      · obtain ⟨x, _, s, hs, hzs⟩ := allM_back _ _ h z hz
        split at hs
        · split at hs
          · obtain ⟨y, _, s', hs', hzs'⟩ := allM_back _ _ hs z hzs
            obtain ⟨_, xs, _, rfl⟩ := endD_some hs'
            rw [List.mem_singleton] at hzs'
            subst hzs'
            exact finK_e
          · cases hs
        · cases hs
      · refine ncall_defer (Q1 := fun e1 H1 => Repr e1 τ1.e ∧ H1 = heapOf τ1.h τ1.n) hf hen hlen hN hd ((hih _ _ _ hpre fn.ntmps (by show goodC c.cls fn.ntmps d.pre = true; rw [hN]; exact hg1) (argEnv 0 args) (arg_repr ht2)).mono ?_) ?_
        · rintro x e1 H1 ⟨τ, hm, he, rfl⟩
          rw [List.mem_singleton] at hm
          cases hm
          exact ⟨rfl, he, rfl⟩
        · rintro e1 H1 ⟨he1, rfl⟩ ds
          have hcap : evs τ1.e d.cap = d.cap.map e1.ev := evs_eq (fun x => he1.ev x) _
          rw [hcap] at h hrest
          refine (hih _ _ _ hrest ⟨fn.ntmps, ds⟩ (by show goodC c.cls fn.ntmps d.rest = true; rw [hN]; exact hg2) _ (he1.put _ _)).mono ?_
          rintro x e2 H2 ⟨τ, hm, he2, rfl⟩
          obtain ⟨s, hs, hss⟩ := allM_mem _ _ h _ hm
          simp only at hs
          split at hs
          · rename_i rv hrv
            obtain ⟨t2, ht3, ht4⟩ := argK_spec (d.cap.map e1.ev) 0 .nil
            rw [ht3, putE_eq] at hs
            split at hs
            · rename_i outs' hg
              refine ⟨rv, hrv, (hih _ _ _ hg d.gn hg3 _ ((arg_repr ht4).put _ _)).mono ?_⟩
              rintro y e3 H3 ⟨τ3, hm3, he3, rfl⟩
              obtain ⟨s', hs', hss'⟩ := allM_mem _ _ hs _ hm3
              obtain ⟨hy, xs, hxs, rfl⟩ := endD_some hs'
              have hmem := hss _ (hss' _ List.mem_cons_self)
              have hres' : resAV P fn.results.toList e2 (heapOf τ3.h τ3.n) = some (tupOf xs) := by
                unfold resAV
                rw [hres, resR_eq hP.T (τ := ⟨τ.e, τ3.h, τ3.n⟩) he2 _ _ hxs]
                rfl
              exact ⟨hy, _, _, hsub _ hmem, finK_ok (P := P) (gc := c.gc) (e0 := σ.e) (n0 := σ.n) (h0 := σ.h) hres'⟩
            · cases hs
          · cases hs
    · cases h
  · cases h
theorem evFn_ok (hP : PrgOk P R) (hih : Holy P ih) {f : FuncId} {args : List AV} {l : Ends} (h : evFn R ih f args σ = some l) : (∀ y ∈ l, y.2.e = σ.e) ∧ NCall P f args (heapOf σ.h σ.n) (endsH l) := by
  unfold evFn at h
  split at h
  · rename_i c hc
    obtain ⟨fn, hf, hN, hres, hen, hbody⟩ := hP.fn _ _ hc
    split at h
    · rename_i hlen
      rw [ble_le, lenK_eq, ← hN] at hlen
      split at h
      rotate_left
      · rename_i d hdf
        unfold BodyOk at hbody
        rw [hdf] at hbody
        split at h
        · rename_i l0 hl0
          cases h
          obtain ⟨d1, d2⟩ := dedupEnds_spec l0
          obtain ⟨k1, k2⟩ := evFnD_ok hP hih hf hN hres hen hbody hlen hl0
          exact ⟨fun y hy => k1 y (d2 y hy), k2 _ fun z hz => by
            obtain ⟨z', hz', q1, q2, q3⟩ := d1 z hz
            exact List.mem_map.2 ⟨z', hz', by rw [q1, q3]⟩⟩
        · cases h
      rename_i hdf
      unfold BodyOk at hbody
      rw [hdf] at hbody
      obtain ⟨hb, hgood⟩ := hbody
      obtain ⟨t', ht1, ht2⟩ := argK_spec args 0 .nil
      rw [ht1] at h
      split at h
      · rename_i outs houts
        split at h
        · rename_i l0 hl0
          cases h
          obtain ⟨d1, d2⟩ := dedupEnds_spec l0
          refine ⟨fun y hy => ?_, ?_⟩
          · obtain ⟨z, hz, he⟩ := endsOf_back _ _ hl0 y (d2 y hy)
            unfold endOf at he
            split at he
            · split at he
              · rename_i xs _
                have := finK_e (gc := c.gc) (e0 := σ.e) (n0 := σ.n) (v := tupOf xs) (h := z.2.h) (n := z.2.n)
                cases he
                exact this
              · cases he
            · split at he
              · rename_i xs _
                have := finK_e (gc := c.gc) (e0 := σ.e) (n0 := σ.n) (v := tupOf xs) (h := z.2.h) (n := z.2.n)
                cases he
                exact this
              · cases he
            · cases he; rfl
            · cases he
          · refine ncall_of_body hf hb hlen hen ((hih _ _ _ houts fn.ntmps (by rw [show ((fn.ntmps : Fr)).size = fn.ntmps from rfl, hN]; exact hgood) (argEnv 0 args) (arg_repr ht2)).mono ?_)
            rintro x e1 H1 ⟨τ, hm, he1, rfl⟩
            obtain ⟨z, hz, he⟩ := endsOf_mem _ _ hl0 _ hm
            obtain ⟨z', hz', q1, q2, q3⟩ := d1 z hz
            have hmem : (z.1, heapOf z.2.h z.2.n) ∈ endsH (dedupEnds l0) := List.mem_map.2 ⟨z', hz', by rw [q1, q3]⟩
            have ret : (x = .normal ∨ x = .ret) → ∃ v H2, (AEnd.ret v, H2) ∈ endsH (dedupEnds l0) ∧ RetOk P fn (heapOf σ.h σ.n) e1 (heapOf τ.h τ.n) v H2 := by
              intro hx
              have he' : (match resRs R.T τ c.results with
                | some xs => match finK c.gc σ.e σ.n (tupOf xs) τ.h τ.n with | (v, τ') => some (AEnd.ret v, τ')
                | none => none) = some z := by rcases hx with rfl | rfl <;> exact he
              split at he'
              · rename_i xs hxs
                have hres' : resAV P fn.results.toList e1 (heapOf τ.h τ.n) = some (tupOf xs) := by
                  unfold resAV
                  rw [hres, resR_eq hP.T he1 _ _ hxs]
                  rfl
                have hfin := finK_ok (P := P) (gc := c.gc) (e0 := σ.e) (n0 := σ.n) (h0 := σ.h) hres'
                generalize finK c.gc σ.e σ.n (tupOf xs) τ.h τ.n = p at he' hfin
                obtain ⟨v, τ'⟩ := p
                cases he'
                exact ⟨v, _, hmem, hfin⟩
              · cases he'
            cases x with
            | normal => exact ret (.inl rfl)
            | ret => exact ret (.inr rfl)
            | panic y => cases he; exact hmem
            | exit i => cases he
            | goto i => cases he
        · cases h
      · cases h
    · cases h
  · cases h
end Go.Ab
end
