/- A part of a proof: rules for reading Go code as code over plain values, and what follows for this program. Its conditions stand in each statement. -/
import Derived.Test.YtackcjahocaonaaGreatDoorEvS
import Derived.Test.YtackcjahocaonaaGreatDoorAbC
section
set_option linter.unusedSimpArgs false
set_option linter.unusedVariables false
namespace Go.Ab
variable {P : Program} {T : Tab} {o : Oper} {H : Heap} {env : Env} {h : BT AObj} {n : Nat} {v : AV} {eff : Eff}

theorem eqRes_some {op : BinOp} {b : Bool} (k : eqRes op b = some (v, eff)) : (op = .eql ∨ op = .neq) ∧ v = .bool (if op = .eql then b else !b) ∧ eff = .keep := by
  cases op <;> simp only [eqRes, reduceCtorEq] at k
  · cases k; exact ⟨.inl rfl, rfl, rfl⟩
  · cases k; exact ⟨.inr rfl, rfl, rfl⟩
theorem isSlice_iff {t : TI} (k : isSlice t = true) : ∃ el, t.d = .slice el := by
  unfold isSlice at k
  split at k
  · rename_i el hd; exact ⟨el, hd⟩
  · cases k
theorem isMap_iff {t : TI} (k : isMap t = true) : ∃ a b, t.d = .map a b := by
  unfold isMap at k
  split at k
  · rename_i a b hd; exact ⟨a, b, hd⟩
  · cases k
theorem isPtr_iff {t : TI} (k : isPtr t = true) : ∃ el, t.d = .pointer el := by
  unfold isPtr at k
  split at k
  · rename_i el hd; exact ⟨el, hd⟩
  · cases k
theorem isIface_iff {t : TI} (k : isIface t = true) : ∃ b, t.d = .iface b := by
  unfold isIface at k
  split at k
  · rename_i b hd; exact ⟨b, hd⟩
  · cases k
theorem isString_iff {t : TI} (k : isString t = true) : t.d = .string := by
  unfold isString at k
  split at k
  · rename_i hd; exact hd
  · cases k
theorem isBool_iff {t : TI} (k : isBool t = true) : t.d = .bool := by
  unfold isBool at k
  split at k
  · rename_i hd; exact hd
  · cases k
theorem int_snd {op : BinOp} {t t' : TypeId} {x y : Operand} {k q : IntKind} {a b : Int} (ho : o.op = .binOp op t x y t') (hx : env.ev x = .int k a) (hy : env.ev y = .int q b) (hk : evInt op k a q b = some (v, eff)) : Exec P o env H v (eff.app H) := by
  have gen : ∀ r : AV, intOp op k a b = r → r ≠ .junk → k = q → isNumOp op = true → Exec P o env H r H := by
    rintro r rfl hr rfl hn
    exact exec_binInt ho hx hy hr
  cases op <;> simp only [evInt] at hk
  case shl =>
    obtain ⟨hc, hk⟩ := chk_some hk
    obtain ⟨rfl, rfl⟩ := kp_some hk
    rw [ltF_eq, Bool.not_eq_true', decide_eq_false_iff_not] at hc
    refine exec_shift ho hx hy ?_
    simp only [shiftOp, hc, if_false, ne_eq, reduceCtorEq, not_false_eq_true]
  case shr =>
    obtain ⟨hc, hk⟩ := chk_some hk
    obtain ⟨rfl, rfl⟩ := kp_some hk
    rw [ltF_eq, Bool.not_eq_true', decide_eq_false_iff_not] at hc
    refine exec_shift ho hx hy ?_
    simp only [shiftOp, hc, if_false, ne_eq, reduceCtorEq, not_false_eq_true]
  case quo =>
    obtain ⟨hc, hk⟩ := chk_some hk
    obtain ⟨rfl, rfl⟩ := kp_some hk
    simp only [Bool.and_eq_true, sameK_eq, eqF_eq, Bool.not_eq_true', beq_eq_false_iff_ne] at hc
    exact gen _ rfl (by simp [intOp, hc.2]) hc.1 rfl
  case rem =>
    obtain ⟨hc, hk⟩ := chk_some hk
    obtain ⟨rfl, rfl⟩ := kp_some hk
    simp only [Bool.and_eq_true, sameK_eq, eqF_eq, Bool.not_eq_true', beq_eq_false_iff_ne] at hc
    exact gen _ rfl (by simp [intOp, hc.2]) hc.1 rfl
  all_goals
    obtain ⟨hc, hk⟩ := chk_some hk
    obtain ⟨rfl, rfl⟩ := kp_some hk
    rw [sameK_eq] at hc
    refine gen _ ?_ (by simp [intOp]) hc rfl
    simp only [intOp, wrapF_eq, addF_eq, subF_eq, mulF_eq, eqF_eq, ltF_eq]
  · rfl
  · congr 1; rw [Bool.eq_iff_iff]; simp
  · congr 1; rw [Bool.eq_iff_iff]; simp
theorem str_snd {op : BinOp} {t t' : TypeId} {x y : Operand} {a b : List UInt8} (ho : o.op = .binOp op t x y t') (hx : env.ev x = .str a) (hy : env.ev y = .str b) (hk : evStr op a b = some (v, eff)) : Exec P o env H v (eff.app H) := by
  cases op <;> simp only [evStr, reduceCtorEq] at hk
  case add =>
    obtain ⟨hc, hk⟩ := chk_some hk
    obtain ⟨rfl, rfl⟩ := kp_some hk
    rw [ble_le, lenK_eq, lenK_eq] at hc
    have := exec_binStr (P := P) (H := H) ho hx hy (by simp [strOp, hc])
    simpa [strOp, hc] using this
  all_goals
    obtain ⟨rfl, rfl⟩ := kp_some hk
    have := exec_binStr (P := P) (H := H) ho hx hy (by simp [strOp])
    simpa [strOp, eqB_eq] using this
theorem under_lst {m : Nat} {x : AV} (k : x.under m) : True := trivial
theorem bin_snd (hT : T.Ok P) {op : BinOp} {t t' : TypeId} {x y : Operand} (ho : o.op = .binOp op t x y t') (hh : HOk h H) (hu : (env.ev x).under H.length) (k : evBin T h op t (isConst x || isConst y) (env.ev x) (env.ev y) = some (v, eff)) : Exec P o env H v (eff.app H) := by
  have lit : ∀ x y : Operand, (isConst x || isConst y) = true → (∃ v, x = .const v) ∨ ∃ v, y = .const v := by
    intro x y hl
    cases x <;> cases y <;> simp [isConst] at hl ⊢
  unfold evBin at k
  split at k
  · rename_i q a hx
    split at k
    · rename_i q' b hy; exact int_snd ho hx hy k
    · cases k
  · rename_i a hx
    split at k
    · rename_i b hy; exact str_snd ho hx hy k
    · cases k
  · rename_i a hx
    split at k
    · rename_i b hy
      obtain ⟨hc, k⟩ := chk_some k
      obtain ⟨hop, rfl, rfl⟩ := eqRes_some k
      have hd := isBool_iff hc
      rw [hT.eq hd (by simp)] at hd
      have := exec_eqBool (H := H) ho hop hd hx hy
      rcases hop with rfl | rfl <;> simpa [bne] using this
    · cases k
  · split at k
    · rename_i hx hy
      obtain ⟨hc, k⟩ := chk_some k
      obtain ⟨hop, rfl, rfl⟩ := eqRes_some k
      obtain ⟨el, hd⟩ := isSlice_iff hc
      rw [hT.eq hd (by simp)] at hd
      have := exec_nilSlice (H := H) (r := true) ho hop hd hx hy (.inl ⟨rfl, rfl⟩)
      rcases hop with rfl | rfl <;> simpa [bne] using this
    · rename_i z l hx hy
      obtain ⟨hc, k⟩ := chk_some k
      obtain ⟨hop, rfl, rfl⟩ := eqRes_some k
      obtain ⟨el, hd⟩ := isSlice_iff hc
      rw [hT.eq hd (by simp)] at hd
      have := exec_nilSlice (H := H) (r := false) ho hop hd hx hy (.inr ⟨⟨_, _, rfl⟩, rfl⟩)
      rcases hop with rfl | rfl <;> simpa [bne] using this
    · rename_i hx hy
      obtain ⟨hc, k⟩ := chk_some k
      obtain ⟨hop, rfl, rfl⟩ := eqRes_some k
      obtain ⟨el, hd⟩ := isSlice_iff hc
      rw [hT.eq hd (by simp)] at hd
      have := exec_eqSlice (P := P) (H := H) ho hop hd hy (fun n G w u _ _ hv => by rw [hx] at hv; simp only [V] at hv; obtain ⟨ad, hv⟩ := hv; exact ⟨_, _, _, hv⟩)
      rcases hop with rfl | rfl <;> simpa [bne] using this
    · rename_i id g off len hx hy
      split at k
      · rename_i ty g' sz xs hob
        obtain ⟨hc, k⟩ := chk_some k
        obtain ⟨hop, rfl, rfl⟩ := eqRes_some k
        simp only [Bool.and_eq_true, Nat.beq_eq, Bool.or_eq_true, blt_lt, Bool.not_eq_true', List.isEmpty_eq_false_iff] at hc
        obtain ⟨⟨hc, rfl⟩, hne⟩ := hc
        obtain ⟨el, hd⟩ := isSlice_iff hc
        rw [hT.eq hd (by simp)] at hd
        rw [hx] at hu
        simp only [AV.under] at hu
        have hH := hh.at hu hob (by simp)
        have := exec_eqSlice (P := P) (H := H) ho hop hd hy (fun n G w u hn hR hv => by
          rw [hx] at hv
          simp only [V] at hv
          obtain ⟨_, _, ad, cap, hv, _, hcur⟩ := hv
          obtain ⟨hg', _, _, hrow⟩ := hR.obj _ _ hH
          rcases hcur hg'.symm with ⟨hnil, _, h0, _⟩ | ⟨_, had, _⟩
          · rcases hne with hne | hne
            · omega
            · rcases hrow with ⟨_, h3⟩ | ⟨h3, _⟩
              · exact absurd h3 hne
              · rw [h3] at hnil; cases hnil
          · exact ⟨_, _, _, by rw [hv, had]⟩)
        rcases hop with rfl | rfl <;> simpa [bne] using this
      · cases k
    · rename_i hx hy
      obtain ⟨hc, k⟩ := chk_some k
      obtain ⟨hop, rfl, rfl⟩ := eqRes_some k
      obtain ⟨el, hd⟩ := isPtr_iff hc
      rw [hT.eq hd (by simp)] at hd
      exact exec_eqPtr ho hop hd (.inl ⟨hx, hy, rfl⟩)
    · rename_i i a hx hy
      obtain ⟨hc, k⟩ := chk_some k
      obtain ⟨hop, rfl, rfl⟩ := eqRes_some k
      obtain ⟨el, hd⟩ := isPtr_iff hc
      rw [hT.eq hd (by simp)] at hd
      exact exec_eqPtr ho hop hd (.inr (.inl ⟨_, _, hx, hy, rfl⟩))
    · rename_i i a j b hx hy
      split at k
      · rename_i el hd
        obtain ⟨hc, k⟩ := chk_some k
        obtain ⟨hop, rfl, rfl⟩ := eqRes_some k
        simp only [Bool.and_eq_true, Nat.beq_eq, Bool.not_eq_true'] at hc
        obtain ⟨⟨⟨h0, h1⟩, rfl⟩, rfl⟩ := hc
        rw [hT.eq hd (by simp)] at hd
        obtain ⟨e, hb⟩ := hT.ok h0
        rw [e] at h1
        exact exec_eqPtr ho hop hd (.inr (.inr ⟨_, _, hx, hy, hb, fun h0 => by rw [h0] at h1; simp at h1, rfl⟩))
      · cases k
    · rename_i hx hy
      obtain ⟨hc, k⟩ := chk_some k
      obtain ⟨hop, rfl, rfl⟩ := eqRes_some k
      obtain ⟨a, b, hd⟩ := isMap_iff hc
      rw [hT.eq hd (by simp)] at hd
      exact exec_eqMap ho hop hd (.inl ⟨hx, hy, rfl⟩)
    · rename_i i hx hy
      obtain ⟨hc, k⟩ := chk_some k
      obtain ⟨hop, rfl, rfl⟩ := eqRes_some k
      obtain ⟨a, b, hd⟩ := isMap_iff hc
      rw [hT.eq hd (by simp)] at hd
      exact exec_eqMap ho hop hd (.inr ⟨_, hx, hy, rfl⟩)
    · rename_i hx hy
      obtain ⟨hc, k⟩ := chk_some k
      obtain ⟨hop, rfl, rfl⟩ := eqRes_some k
      rw [Bool.and_eq_true] at hc
      obtain ⟨b, hd⟩ := isIface_iff hc.2
      rw [hT.eq hd (by simp)] at hd
      exact exec_eqIface ho hop hd (.inl ⟨hx, hy, rfl, lit x y hc.1⟩)
    · rename_i i z hx hy
      obtain ⟨hc, k⟩ := chk_some k
      obtain ⟨hop, rfl, rfl⟩ := eqRes_some k
      obtain ⟨b, hd⟩ := isIface_iff hc
      rw [hT.eq hd (by simp)] at hd
      exact exec_eqIface ho hop hd (.inr ⟨_, _, hx, hy, rfl⟩)
    · rename_i xs ys hx hy
      split at k
      · rename_i ls hcmp hl
        split at k
        · rename_i b hb
          obtain ⟨hop, rfl, rfl⟩ := eqRes_some k
          obtain ⟨e, hl⟩ := leaves_T hT hl
          rw [eqCells_eq] at hb
          exact exec_eqAgg ho hop (hT.cmp _ hcmp) hl hx hy hb
        · cases k
      · cases k
    · cases k
theorem elemsH_eq (hh : HOk h H) {x : AV} (hu : x.under H.length) {ys : List AV} (k : elemsH h x = some ys) : elemsOf H x = some ys := by
  cases x <;> simp only [elemsH, reduceCtorEq] at k <;> simp only [elemsOf] <;> try exact k
  rename_i id g off len
  split at k
  · exact k
  · rename_i hne
    rw [if_neg hne]
    split at k
    · rename_i ty g' sz xs hob
      simp only [AV.under] at hu
      rw [hh.at hu hob (by simp)]
      split at k
      · rename_i hc
        simp only [Bool.and_eq_true, Nat.beq_eq, ble_le, lenK_eq] at hc
        simp only [if_pos hc]
        exact k
      · cases k
    · cases k
theorem conv_snd (hT : T.Ok P) {s d : TypeId} {x : Operand} (ho : o.op = .convert s d x) (hh : HOk h H) (hu : (env.ev x).under H.length) (hn : n = H.length ∨ eff = .keep) (k : evConv T h n (T.ti s) (T.ti d) (env.ev x) = some (v, eff)) : Exec P o env H v (eff.app H) := by
  unfold evConv at k
  split at k
  · rename_i q i hx
    split at k
    · rename_i q' hd
      obtain ⟨hc, k⟩ := chk_some k
      obtain ⟨rfl, rfl⟩ := kp_some k
      rw [hT.eq hd (by simp)] at hd
      rw [wrapF_eq]
      exact exec_convInt ho hx (hT.ok hc).2 hd
    · rename_i hd
      obtain ⟨hc, k⟩ := chk_some k
      obtain ⟨rfl, rfl⟩ := kp_some k
      rw [hT.eq hd (by simp)] at hd
      exact exec_convIntStr ho hx (hT.ok hc).2 hd
    · cases k
  · rename_i b hx
    split at k
    · rename_i hs hd
      obtain ⟨rfl, rfl⟩ := kp_some k
      rw [hT.eq hs (by simp)] at hs
      rw [hT.eq hd (by simp)] at hd
      exact exec_convStr ho hx hs hd
    · rename_i el hs hd
      rw [hT.eq hs (by simp)] at hs
      rw [hT.eq hd (by simp)] at hd
      split at k
      · rename_i hel
        cases k
        rw [hT.eq hel (by simp)] at hel
        rcases hn with rfl | hn
        · have := exec_strRunes (H := H) ho hx hs hd hel
          simpa using this
        · cases hn
      · cases k
    · cases k
  · rename_i x' h1 h2
    split at k
    · rename_i el hs hd
      rw [hT.eq hs (by simp)] at hs
      rw [hT.eq hd (by simp)] at hd
      split at k
      · rename_i ys hel hys
        rw [hT.eq hel (by simp)] at hel
        have hys' := elemsH_eq hh hu hys
        split at k
        · rename_i b hb
          obtain ⟨rfl, rfl⟩ := kp_some k
          exact exec_runesStr ho hys' (fun s h => h2 s h) hb hs hd hel
        · cases k
      · rename_i ys hel hys
        rw [hT.eq hel (by simp)] at hel
        have hys' := elemsH_eq hh hu hys
        split at k
        · rename_i b hb
          obtain ⟨rfl, rfl⟩ := kp_some k
          exact exec_bytesStr ho hys' (fun s h => h2 s h) hb hs hd hel
        · cases k
      · cases k
    · cases k
theorem boundR_eq {e : BT AV} (he : ∀ x, ev1 e x = env.ev x) {x : Option Operand} {d i : Nat} (k : boundR e x d = some i) : boundOf env x d = some (i : Int) := by
  cases x with
  | none => cases k; rfl
  | some x =>
    simp only [boundR, he] at k
    simp only [boundOf]
    split at k
    · rename_i q j hx; cases k; rw [hx]; rfl
    · cases k
theorem lenV_eq (x : AV) : lenV x = lenAV x := by cases x <;> simp [lenV, lenAV]
theorem slice_snd (hT : T.Ok P) {t : TypeId} {x : Operand} {lo hi : Option Operand} {l u m : Nat} (ho : o.op = .slice t x lo hi none) (hh : HOk h H) (hu : (env.ev x).under H.length) (hl : boundOf env lo 0 = some (l : Int)) (hm : lenAV (env.ev x) = some m) (hhi : boundOf env hi m = some (u : Int))
    (k : evSlice T h (T.ti t).d l u (env.ev x) = some (v, eff)) : Exec P o env H v (eff.app H) := by
  cases hx : env.ev x <;> rw [hx] at k hu hm <;> simp only [evSlice, reduceCtorEq] at k <;> simp only [lenAV, Option.some.injEq] at hm <;> subst hm
  · split at k
    · rename_i hd
      obtain ⟨hc, k⟩ := chk_some k
      obtain ⟨rfl, rfl⟩ := kp_some k
      simp only [Bool.and_eq_true, ble_le, lenK_eq] at hc
      rw [hT.eq hd (by simp)] at hd
      have := exec_slice_str (H := H) ho hx hd hl hhi (by omega) (by omega) (by omega)
      simpa using this
    · cases k
  · split at k
    · rename_i el hd
      obtain ⟨hc, k⟩ := chk_some k
      obtain ⟨rfl, rfl⟩ := kp_some k
      simp only [Bool.and_eq_true, Nat.beq_eq] at hc
      rw [hT.eq hd (by simp)] at hd
      exact exec_slice_nil ho hx hd (hT.ok hc.1.1).2 hl hhi (by omega) (by omega)
    · cases k
  · split at k
    · rename_i el hd
      obtain ⟨hc, k⟩ := chk_some k
      obtain ⟨rfl, rfl⟩ := kp_some k
      simp only [Bool.and_eq_true, ble_le, lenK_eq, List.all_eq_true, Nat.beq_eq] at hc
      obtain ⟨⟨⟨h1, h2⟩, h3⟩, h4⟩ := hc
      rw [hT.eq hd (by simp)] at hd
      obtain ⟨e1, e2⟩ := hT.ok h1
      have := exec_slice_lst (H := H) ho hx hd e2 (fun z hz => by rw [← e1]; exact h2 z hz) hl hhi (by omega) (by omega) (by omega)
      simpa using this
    · cases k
  · split at k
    · rename_i el ty g' sz xs hd hob
      replace k := chk_some k
      obtain ⟨hc, k⟩ := k
      simp only [Bool.and_eq_true, ble_le, Nat.beq_eq] at hc
      obtain ⟨⟨⟨⟨h0, h1⟩, h2⟩, h3⟩, h4⟩ := hc
      subst h0
      rw [hT.eq hd (by simp)] at hd
      obtain ⟨e1, e2⟩ := hT.ok h1
      simp only [AV.under] at hu
      have hH := hh.at hu hob (by simp)
      split at k
      · rename_i hlt
        obtain ⟨rfl, rfl⟩ := kp_some k
        rw [blt_lt] at hlt
        have := exec_slice_view ho hx hH hd e2 (by rw [← e1]; exact h2) hl hhi (by omega) (by omega) (by omega) (by omega)
        simpa using this
      · rename_i hlt
        replace k := chk_some k
        obtain ⟨hg0, k⟩ := k
        obtain ⟨rfl, rfl⟩ := kp_some k
        rw [blt_lt] at hg0
        have hnl : ¬ l < _ := fun hl => by rw [blt_lt.2 hl] at hlt; cases hlt
        have hll : l = _ := Nat.le_antisymm (Nat.le_trans h3 h4) (Nat.not_lt.1 hnl)
        subst hll
        have huu : u = l := Nat.le_antisymm h4 h3
        subst huu
        exact exec_sliceEnd ho hx hd e2 hl hhi hg0
    · cases k
theorem oslice_snd (hT : T.Ok P) {t : TypeId} {x : Operand} {lo hi mx : Option Operand} {e : BT AV} (ho : o.op = .slice t x lo hi mx) (he : ∀ x, ev1 e x = env.ev x) (hh : HOk h H) (hu : (env.ev x).under H.length) (k : oSlice T t e h (env.ev x) lo hi mx = some (v, eff)) : Exec P o env H v (eff.app H) := by
  unfold oSlice at k
  split at k
  · split at k
    · rename_i l m hl hm
      split at k
      · rename_i u hu'
        rw [lenV_eq] at hm
        exact slice_snd hT ho hh hu (boundR_eq he hl) hm (boundR_eq he hu') k
      · cases k
    · cases k
  · split at k
    · rename_i hi'
      rw [he, he] at k
      split at k
      · rename_i q1 q2 h1 h2
        unfold slice0 at k
        split at k
        · rename_i el hd
          replace k := chk_some k
          obtain ⟨hc, k⟩ := k
          obtain ⟨e1, e2⟩ := hT.ok hc
          rw [hT.eq hd (by simp)] at hd
          split at k
          · rename_i hx
            obtain ⟨rfl, rfl⟩ := kp_some k
            exact exec_slice00 ho hd e2 h1 h2 (.inl ⟨hx, rfl⟩)
          · rename_i hx
            obtain ⟨rfl, rfl⟩ := kp_some k
            exact exec_slice00 ho hd e2 h1 h2 (.inr ⟨rfl, fun G w u _ hv => by rw [hx] at hv; simp only [V] at hv; obtain ⟨ad, hv⟩ := hv; exact ⟨_, _, _, hv⟩⟩)
          · rename_i z zs hx
            obtain ⟨rfl, rfl⟩ := kp_some k
            exact exec_slice00 ho hd e2 h1 h2 (.inr ⟨rfl, fun G w u _ hv => by
              rw [hx] at hv
              simp only [V] at hv
              rcases hv with ⟨h0, _⟩ | ⟨b, q, cap, c, t, fr, size, hv, _⟩
              · cases h0
              · exact ⟨_, _, _, hv⟩⟩)
          · rename_i id g off len hx
            split at k
            · rename_i ty g' sz xs hob
              replace k := chk_some k
              obtain ⟨hg, k⟩ := k
              rw [Nat.beq_eq] at hg
              subst hg
              obtain ⟨rfl, rfl⟩ := kp_some k
              rw [hx] at hu
              simp only [AV.under] at hu
              have hH := hh.at hu hob (by simp)
              exact exec_slice00 ho hd e2 h1 h2 (.inr ⟨rfl, fun G w u hR hv => by
                rw [hx] at hv
                simp only [V] at hv
                obtain ⟨_, _, ad, cap, hv, _, hcur⟩ := hv
                rcases hcur (hR.obj _ _ hH).1.symm with ⟨_, _, h0, _⟩ | ⟨_, had, _⟩
                · omega
                · exact ⟨_, _, _, by rw [hv, had]⟩⟩)
            · cases k
          · cases k
        · cases k
      · cases k
    · cases k
theorem indexAddr_snd (hT : T.Ok P) {t : TypeId} {x ix : Operand} (ho : o.op = .indexAddr t x ix) (hh : HOk h H) (hu : (env.ev x).under H.length) (k : oIndexAddr T h t (env.ev x) (env.ev ix) = some (v, eff)) : Exec P o env H v (eff.app H) := by
  unfold oIndexAddr at k
  split at k
  · rename_i q i hi
    have hi' : env.ev ix = .int q ((i : Nat) : Int) := hi
    cases hx : env.ev x <;> rw [hx] at k hu <;> simp only [evIndexAddr, reduceCtorEq] at k
    · split at k
      · rename_i el xs z hd hz
        replace k := chk_some k
        obtain ⟨hc, k⟩ := k
        obtain ⟨rfl, rfl⟩ := kp_some k
        rw [Bool.and_eq_true, Nat.beq_eq] at hc
        obtain ⟨e1, e2⟩ := hT.ok hc.1
        rw [hT.eq hd (by simp)] at hd
        rw [nth_eq] at hz
        have := exec_indexAddr_lst (H := H) ho hx hi' (by omega) (by simpa using hz) hd e2 (by rw [← e1]; exact hc.2)
        simpa using this
      · cases k
    · split at k
      · rename_i el ty g' sz xs hd hob
        split at k
        · rename_i z hz
          replace k := chk_some k
          obtain ⟨hc, k⟩ := k
          obtain ⟨rfl, rfl⟩ := kp_some k
          simp only [Bool.and_eq_true, Nat.beq_eq, blt_lt] at hc
          obtain ⟨⟨⟨h0, h1⟩, h2⟩, h3⟩ := hc
          subst h0
          obtain ⟨e1, e2⟩ := hT.ok h2
          rw [hT.eq hd (by simp)] at hd
          rw [nth_eq] at hz
          simp only [AV.under] at hu
          have := exec_indexAddr_view ho hx hi' (by omega) (by omega) (hh.at hu hob (by simp)) (by simpa using hz) hd e2 (by rw [← e1]; exact h3)
          simpa using this
        · cases k
      · cases k
    · split at k
      · rename_i m el hd
        replace k := chk_some k
        obtain ⟨hc, k⟩ := k
        obtain ⟨rfl, rfl⟩ := kp_some k
        rw [Bool.and_eq_true, blt_lt] at hc
        obtain ⟨e1, e2⟩ := hT.ok hc.2
        rw [hT.eq hd (by simp)] at hd
        have := exec_indexAddr_arr (H := H) ho hx hi' (by omega) (by omega) hd e2
        simpa [e1] using this
      · cases k
  · cases k
theorem index_snd (hT : T.Ok P) {t : TypeId} {x ix : Operand} (ho : o.op = .index t x ix) (k : oIndex T t (env.ev x) (env.ev ix) = some (v, eff)) : Exec P o env H v (eff.app H) := by
  unfold oIndex at k
  split at k
  · rename_i q i hi
    have hi' : env.ev ix = .int q ((i : Nat) : Int) := hi
    cases hx : env.ev x <;> rw [hx] at k <;> simp only [evIndex, reduceCtorEq] at k
    split at k
    · rename_i b hd hb
      obtain ⟨rfl, rfl⟩ := kp_some k
      rw [hT.eq hd (by simp)] at hd
      rw [nth_eq] at hb
      exact exec_index_str ho hx hi' (by omega) (by simpa using hb) hd
    · cases k
  · cases k
theorem kt_T (hT : T.Ok P) {kT : TypeId} {kt : KT} (k : ktT T kT = some kt) : kt.of P kT := by
  have fin : ∀ ls ks, intKinds ls = some ks → ls = ks.map .int := by
    intro ls
    induction ls with
    | nil => intro ks h; cases h; rfl
    | cons l ls ih =>
      intro ks h
      cases l <;> simp only [intKinds, reduceCtorEq] at h
      split at h
      · rename_i ks' hks; cases h; rw [ih _ hks]; rfl
      · cases h
  unfold ktT at k
  split at k
  · rename_i q hd; cases k; rw [hT.eq hd (by simp)] at hd; exact hd
  · rename_i hd; cases k; rw [hT.eq hd (by simp)] at hd; exact hd
  · rename_i hd; cases k; rw [hT.eq hd (by simp)] at hd; exact hd
  · rename_i fs hd
    split at k
    · rename_i ls hc hl
      split at k
      · rename_i ks hks
        cases k
        obtain ⟨_, hl⟩ := leaves_T hT (t := kT) (by rw [hd]; exact hl)
        exact ⟨by rw [hl, fin _ _ hks], (hT.cmp _ hc).1⟩
      · cases k
    · cases k
  · rename_i m el hd
    split at k
    · rename_i ls hc hl
      split at k
      · rename_i ks hks
        cases k
        obtain ⟨_, hl⟩ := leaves_T hT (t := kT) (by rw [hd]; exact hl)
        exact ⟨by rw [hl, fin _ _ hks], (hT.cmp _ hc).1⟩
      · cases k
    · cases k
  · cases k
theorem lookRes_some {z : AV} {ok : Bool} {r : Option AV} (k : lookRes z ok r = some (v, eff)) : isJunk z = false ∧ eff = .keep ∧ v = if ok = true then .tup [r.getD z, .bool r.isSome] else r.getD z := by
  unfold lookRes at k
  obtain ⟨hc, k⟩ := chk_some k
  rw [Bool.not_eq_true'] at hc
  cases r <;> cases ok <;> cases k <;> exact ⟨hc, rfl, rfl⟩
theorem lookup_snd (hT : T.Ok P) {t : TypeId} {x ix : Operand} {ok : Bool} (ho : o.op = .lookup t x ix ok) (hh : HOk h H) (hu : (env.ev x).under H.length) (k : evLookup T h (T.ti t).d (env.ev ix) ok (env.ev x) = some (v, eff)) : Exec P o env H v (eff.app H) := by
  unfold evLookup at k
  split at k
  · rename_i kT eT hd
    rw [hT.eq hd (by simp)] at hd
    split at k
    · rename_i kt' hkt
      split at k
      · rename_i key hkey
        split at k
        · rename_i id hx
          split at k
          · rename_i kt es hob
            replace k := chk_some k
            obtain ⟨hc, k⟩ := k
            rw [kteqb_eq] at hc
            subst hc
            obtain ⟨hz, rfl, rfl⟩ := lookRes_some k
            obtain ⟨e1, e2⟩ := hT.zero hz
            rw [hx] at hu
            simp only [AV.under] at hu
            rw [e1, mgetF_eq]
            exact exec_lookup ho hx rfl hkey (hh.at hu hob (by simp)) hd (kt_T hT hkt) e2
          · cases k
        · rename_i hx
          obtain ⟨hz, rfl, rfl⟩ := lookRes_some k
          obtain ⟨e1, e2⟩ := hT.zero hz
          rw [e1]
          exact exec_lookup_nil ho hx rfl hkey hd (kt_T hT hkt) e2
        · cases k
      · cases k
    · cases k
  · cases k
theorem update_snd (hT : T.Ok P) {t : TypeId} {m k' x : Operand} (ho : o.op = .mapUpdate t m k' x ∨ o.op = .insert t m k' x) (hh : HOk h H) (hu : (env.ev m).under H.length) (k : evUpdate T h (T.ti t).d (env.ev k') (env.ev x) (env.ev m) = some (v, eff)) : Exec P o env H v (eff.app H) := by
  unfold evUpdate at k
  split at k
  · rename_i id hx
    split at k
    · rename_i kT eT kt es hd hob
      rw [hT.eq hd (by simp)] at hd
      split at k
      · rename_i kt' key hkt hkey
        replace k := chk_some k
        obtain ⟨hc, k⟩ := k
        cases k
        rw [kteqb_eq] at hc
        subst hc
        rw [hx] at hu
        simp only [AV.under] at hu
        have hH := hh.at hu hob (by simp)
        intro N G a w hR hE
        obtain ⟨ms, _, hms⟩ := hR.mapAt hH
        exact exec_mapUpdate' ho hx rfl hkey rfl hH hd (kt_T hT hkt) (upd_mset hms.nodup key _) N G a w hR hE
      · cases k
    · cases k
  · cases k
end Go.Ab
end
