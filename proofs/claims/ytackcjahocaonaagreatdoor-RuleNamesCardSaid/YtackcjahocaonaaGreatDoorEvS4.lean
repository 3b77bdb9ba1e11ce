/- A part of a proof: rules for reading Go code as code over plain values, and what follows for this program. Its conditions stand in each statement. -/
import Derived.Test.YtackcjahocaonaaGreatDoorEvS3
section
set_option linter.unusedSimpArgs false
set_option linter.unusedVariables false
namespace Go.Ab
variable {P : Program} {T : Tab} {o : Oper} {H : Heap} {env : Env} {h : BT AObj} {v : AV} {eff : Eff} {n : Nat}

theorem evs_eq {e : BT AV} (he : ∀ x, ev1 e x = env.ev x) (l : List Operand) : evs e l = l.map env.ev := by
  induction l with
  | nil => rfl
  | cons x l ih => show ev1 e x :: evs e l = _; rw [he, ih]; rfl
theorem arr1 {α : Type} {a : Array α} {x : List α} (h : a.toList = x) : a = x.toArray := by cases a; simp_all
theorem builtin_snd (hT : T.Ok P) {b : Builtin} {xs : Array Operand} {ts : Array TypeId} (ho : o.op = .call { callee := .builtin b, args := xs, argTypes := ts }) (hh : HOk h H) (hu : ∀ x, (env.ev x).under H.length) (hn : n = H.length ∨ eff = .keep) (k : evBuiltin T h n b (xs.toList.map env.ev) ts.toList = some (v, eff)) : Exec P o env H v (eff.app H) := by
  obtain ⟨xs⟩ := xs
  obtain ⟨ts⟩ := ts
  simp only at k
  unfold evBuiltin at k
  split at k
  · split at k
    · rename_i y t hl
      match xs, hl, ho with
      | [x], hl, ho =>
        simp only [List.map_cons, List.map_nil, List.cons.injEq, and_true] at hl
        subst hl
        split at k
        · rename_i m hm
          obtain ⟨rfl, rfl⟩ := kp_some k
          exact len_snd hT ho hh hu hm
        · cases k
      | [], hl, _ => cases hl
      | x :: y :: r, hl, _ => simp at hl
    · cases k
  · split at k
    · rename_i y z t1 t2 hl
      match xs, hl, ho with
      | [x, x'], hl, ho =>
        simp only [List.map_cons, List.map_nil, List.cons.injEq, and_true] at hl
        obtain ⟨rfl, rfl⟩ := hl
        exact append_snd hT ho hh hu hn k
      | [], hl, _ => cases hl
      | [x], hl, _ => simp at hl
      | x :: y :: z :: r, hl, _ => simp at hl
    · cases k
  · split at k
    · rename_i y z t1 t2 hl
      match xs, hl, ho with
      | [x, x'], hl, ho =>
        simp only [List.map_cons, List.map_nil, List.cons.injEq, and_true] at hl
        obtain ⟨rfl, rfl⟩ := hl
        exact copy_snd hT ho hh hu k
      | [], hl, _ => cases hl
      | [x], hl, _ => simp at hl
      | x :: y :: z :: r, hl, _ => simp at hl
    · cases k
  · split at k
    · rename_i y t hl
      match xs, hl, ho with
      | [x], hl, ho =>
        simp only [List.map_cons, List.map_nil, List.cons.injEq, and_true] at hl
        subst hl
        exact clear_snd hT ho hh hu k
      | [], hl, _ => cases hl
      | x :: y :: r, hl, _ => simp at hl
    · cases k
  · exact minmax_snd (mx := true) ho k
  · exact minmax_snd (mx := false) ho k
  · split at k
    · rename_i t hl
      match xs, hl, ho with
      | [x], hl, ho =>
        simp only [List.map_cons, List.map_nil, List.cons.injEq, and_true] at hl
        replace k := chk_some k
        obtain ⟨hc, k⟩ := k
        obtain ⟨rfl, rfl⟩ := kp_some k
        obtain ⟨q, hd⟩ := isSlice_iff hc
        rw [hT.eq hd (by simp)] at hd
        exact exec_capNil ho hl hd
      | [], hl, _ => cases hl
      | x :: y :: r, hl, _ => simp at hl
    · cases k
  · split at k
    · rename_i hl
      match xs, hl, ho with
      | [x], hl, ho =>
        simp only [List.map_cons, List.map_nil, List.cons.injEq, and_true] at hl
        obtain ⟨rfl, rfl⟩ := kp_some k
        exact exec_sliceDataNil ho hl
      | [], hl, _ => cases hl
      | x :: y :: r, hl, _ => simp at hl
    · rename_i id g off len hl
      match xs, hl, ho with
      | [x], hl, ho =>
        simp only [List.map_cons, List.map_nil, List.cons.injEq, and_true] at hl
        split at k
        · rename_i ty g' sz ys hob
          replace k := chk_some k
          obtain ⟨hc, k⟩ := k
          simp only [Bool.and_eq_true, Nat.beq_eq] at hc
          obtain ⟨⟨rfl, _⟩, _⟩ := hc
          have hux := hu x
          rw [hl] at hux
          simp only [AV.under] at hux
          have hH := hh.at hux hob (by simp)
          split at k
          · cases k
          · rename_i hlen
            obtain ⟨m, rfl⟩ := Nat.exists_eq_succ_of_ne_zero (n := len) (fun e => hlen e)
            obtain ⟨rfl, rfl⟩ := kp_some k
            exact exec_sliceData ho hl hH
        · cases k
      | [], hl, _ => cases hl
      | x :: y :: r, hl, _ => simp at hl
    · cases k
  · split at k
    · rename_i y q m pt t2 hl
      match xs, hl, ho with
      | [x, x'], hl, ho =>
        simp only [List.map_cons, List.map_nil, List.cons.injEq, and_true] at hl
        obtain ⟨rfl, hl2⟩ := hl
        exact unsafe_snd hT ho (by simp) hl2 hh hu k
      | [], hl, _ => cases hl
      | [x], hl, _ => simp at hl
      | x :: y :: z :: r, hl, _ => simp at hl
    · cases k
  · cases k
theorem ext_snd (hT : T.Ok P) {f : FuncId} {x : Ext1} {xs : Array Operand} {ts : Array TypeId} (ho : o.op = .call { callee := .value (.func f), args := xs, argTypes := ts }) (hx : T.ext f = some x) (hn : n = H.length ∨ eff = .keep) (k : evExt T.u8 n x (xs.toList.map env.ev) = some (v, eff)) : Exec P o env H v (eff.app H) := by
  obtain ⟨xs⟩ := xs
  simp only at k
  unfold evExt at k
  split at k
  · split at k
    · rename_i s c hl
      match xs, hl, ho with
      | [x, y], hl, ho =>
        simp only [List.map_cons, List.map_nil, List.cons.injEq, and_true] at hl
        replace k := chk_some k
        obtain ⟨hc, k⟩ := k
        rw [blt_lt] at hc
        obtain ⟨rfl, rfl⟩ := kp_some k
        exact exec_indexByte ho (hT.byt _ hx) hl.1 hl.2 hc
      | [], hl, _ => cases hl
      | [x], hl, _ => simp at hl
      | x :: y :: z :: r, hl, _ => simp at hl
    · cases k
  · split at k
    · rename_i y hl
      match xs, hl, ho with
      | [x], hl, ho =>
        simp only [List.map_cons, List.map_nil, List.cons.injEq, and_true] at hl
        obtain ⟨rfl, rfl⟩ := kp_some k
        rw [← hl]
        exact exec_noEscape ho (hT.esc _ hx)
      | [], hl, _ => cases hl
      | x :: y :: r, hl, _ => simp at hl
    · cases k
  · split at k
    · rename_i m hl
      match xs, hl, ho with
      | [x], hl, ho =>
        simp only [List.map_cons, List.map_nil, List.cons.injEq, and_true] at hl
        replace k := chk_some k
        obtain ⟨hc, k⟩ := k
        rw [ble_le] at hc
        obtain ⟨ps, rs, t, h1, h2, h3⟩ := hT.mkz _ hx
        cases k
        rcases hn with hn | hn
        · subst hn
          exact exec_makeNoZero ho h1 h2 h3 hl hc
        · cases hn
      | [], hl, _ => cases hl
      | x :: y :: r, hl, _ => simp at hl
    · cases k
theorem call_snd (hT : T.Ok P) {c : Call} {e : BT AV} (ho : o.op = .call c) (he : ∀ x, ev1 e x = env.ev x) (hh : HOk h H) (hu : ∀ x, (env.ev x).under H.length) (hn : n = H.length ∨ eff = .keep) (k : oCall T e h n c = some (v, eff)) : Exec P o env H v (eff.app H) := by
  obtain ⟨cl, xs, ts⟩ := c
  unfold oCall at k
  simp only [evs_eq he] at k
  split at k
  · exact builtin_snd hT ho hh hu hn k
  · split at k
    · split at k
      · rename_i hx
        exact ext_snd hT ho hx hn k
      · cases k
    · cases k
  · cases k
theorem assert_snd (hT : T.Ok P) {x : Operand} {t a : TypeId} {ok : Bool} (ho : o.op = .typeAssert x t a ok) (k : evTypeAssert T (env.ev x) a ok = some (v, eff)) : Exec P o env H v (eff.app H) := by
  unfold evTypeAssert at k
  split at k
  · cases k
  · cases k
  · rename_i hni hnb
    have hd : T.ti a = P.ti a := hT.ti a (fun e => hnb e)
    have h1 : (P.ti a).d ≠ .bad := by rw [← hd]; exact fun e => hnb e
    have h2 : ∀ b, (P.ti a).d ≠ .iface b := fun b => by rw [← hd]; exact fun e => hni _ e
    split at k
    · rename_i t' y hs
      split at k
      · rename_i hq
        rw [Nat.beq_eq] at hq
        obtain ⟨rfl, rfl⟩ := kp_some k
        exact exec_assert ho hs h1 h2 (.inl ⟨hq, by simp⟩)
      · rename_i hq
        rw [Nat.beq_eq] at hq
        obtain ⟨rfl, rfl⟩ := kp_some k
        exact exec_assert ho hs h1 h2 (.inl ⟨hq, by simp⟩)
      · rename_i hq
        have hq' : t' ≠ a := fun e => by subst e; simp at hq
        replace k := chk_some k
        obtain ⟨hc, k⟩ := k
        rw [Bool.not_eq_true'] at hc
        obtain ⟨e1, e2⟩ := hT.zero hc
        obtain ⟨rfl, rfl⟩ := kp_some k
        rw [e1]
        exact exec_assert ho hs h1 h2 (.inr ⟨hq', rfl, e2, rfl⟩)
      · cases k
    · rename_i hs
      split at k
      · replace k := chk_some k
        obtain ⟨hc, k⟩ := k
        rw [Bool.not_eq_true'] at hc
        obtain ⟨e1, e2⟩ := hT.zero hc
        obtain ⟨rfl, rfl⟩ := kp_some k
        rw [e1]
        exact exec_assertNil ho hs h1 h2 e2
      · cases k
    · cases k
theorem range_snd (hT : T.Ok P) {x : Operand} {t : TypeId} (ho : o.op = .range t x) (hh : HOk h H) (hu : ∀ x, (env.ev x).under H.length) (hn : n = H.length ∨ eff = .keep) (k : oRange T h n t (env.ev x) = some (v, eff)) : Exec P o env H v (eff.app H) := by
  unfold oRange at k
  split at k
  · rename_i s hs
    replace k := chk_some k
    obtain ⟨hc, k⟩ := k
    have hd := isString_iff hc
    rw [hT.eq hd (by simp)] at hd
    cases k
    rcases hn with hn | hn
    · subst hn
      exact exec_rangeStr ho hs hd
    · cases hn
  · rename_i id hs
    split at k
    · rename_i kt es hob
      have hux := hu x
      rw [hs] at hux
      simp only [AV.under] at hux
      have hH := hh.at hux hob (by simp)
      replace k := chk_some k
      obtain ⟨hc, k⟩ := k
      obtain ⟨a, b, hd⟩ := isMap_iff hc
      rw [hT.eq hd (by simp)] at hd
      cases k
      rcases hn with hn | hn
      · subst hn
        exact exec_rangeMap ho hs hH hd
      · cases hn
    · cases k
  · cases k
theorem nextS_snd {x : Operand} (ho : o.op = .next x true) (hh : HOk h H) (hu : ∀ x, (env.ev x).under H.length) (k : oNextS h (env.ev x) = some (v, eff)) : Exec P o env H v (eff.app H) := by
  unfold oNextS at k
  split at k
  · rename_i id hs
    split at k
    · rename_i s pos hob
      have hux := hu x
      rw [hs] at hux
      simp only [AV.under] at hux
      have hH := hh.at hux hob (by simp)
      split at k
      · rename_i hlt
        rw [blt_lt, lenK_eq] at hlt
        have := exec_nextStr (P := P) ho hs hH hlt
        generalize hd : Utf8.decode (ba s) pos = d at k this
        obtain ⟨c, w⟩ := d
        cases k
        exact this
      · rename_i hlt
        obtain ⟨rfl, rfl⟩ := kp_some k
        exact exec_nextStrEnd ho hs hH (fun hl => by rw [blt_lt.2 (by rw [lenK_eq]; exact hl)] at hlt; cases hlt)
    · cases k
  · cases k
theorem entry_snd {x : Operand} (ho : o.op = .entry x) (hh : HOk h H) (hu : ∀ x, (env.ev x).under H.length) (hiu : ∀ (id m : Nat) (a b : List Key) (c : Option Key), H[id]? = some (AObj.iter m a b c) → m < H.length) (k : oEntry h (env.ev x) = some (v, eff)) : Exec P o env H v (eff.app H) := by
  unfold oEntry at k
  split at k
  · rename_i id hs
    split at k
    · rename_i m keys left q hob
      have hux := hu x
      rw [hs] at hux
      simp only [AV.under] at hux
      have hH := hh.at hux hob (by simp)
      split at k
      · rename_i kt es hob'
        have hM := hh.at (hiu _ _ _ _ _ hH) hob' (by simp)
        split at k
        · rename_i z hz
          replace k := chk_some k
          obtain ⟨hc, k⟩ := k
          rw [Nat.beq_eq, lenK_eq, lenK_eq] at hc
          rw [mgetF_eq] at hz
          obtain ⟨rfl, rfl⟩ := kp_some k
          exact exec_entry ho hs hH hM hc hz
        · cases k
      · cases k
    · cases k
  · cases k
theorem fld_eq (hT : T.Ok P) {s : TypeId} {f : Nat} {x : TypeId × Nat × Bool} (k : fld (T.ti s) f = some x) : ∃ fs, (P.ti s).d = .struct fs ∧ fs[f]? = some x := by
  unfold fld at k
  split at k
  · rename_i fs hd
    rw [hT.eq hd (by simp)] at hd
    rw [nth_eq] at k
    exact ⟨fs, hd, k⟩
  · cases k
theorem fieldAddr_snd (hT : T.Ok P) {s : TypeId} {x : Operand} {f : Nat} (ho : o.op = .fieldAddr s x f) (hh : HOk h H) (hu : ∀ x, (env.ev x).under H.length) (k : oFieldAddr T h (fld (T.ti s) f) (env.ev x) = some (v, eff)) : Exec P o env H v (eff.app H) := by
  unfold oFieldAddr at k
  split at k
  · rename_i ft off u hf
    obtain ⟨fs, hd, hf'⟩ := fld_eq hT hf
    replace k := chk_some k
    obtain ⟨hc, k⟩ := k
    simp only [Bool.and_eq_true, Bool.not_eq_true', ← Bool.not_eq_true, Nat.beq_eq] at hc
    obtain ⟨e1, e2⟩ := hT.ok hc.1
    have hsz : (P.ti ft).size ≠ 0 := by rw [← e1]; exact hc.2
    split at k
    · rename_i hs
      obtain ⟨rfl, rfl⟩ := kp_some k
      exact exec_fieldAddr ho hs rfl hd hf' e2 hsz (by simp)
    · rename_i hs
      obtain ⟨rfl, rfl⟩ := kp_some k
      exact exec_fieldAddr ho hs rfl hd hf' e2 hsz (by simp)
    · rename_i id g i o' hs
      split at k
      · rename_i ty g' sz xs hob
        replace k := chk_some k
        obtain ⟨hg, k⟩ := k
        rw [Nat.beq_eq] at hg
        subst hg
        obtain ⟨rfl, rfl⟩ := kp_some k
        have hux := hu x
        rw [hs] at hux
        simp only [AV.under] at hux
        have hH := hh.at hux hob (by simp)
        exact exec_fieldAddr ho hs rfl hd hf' e2 hsz (fun _ _ _ _ e => by cases e; exact ⟨_, _, _, hH⟩)
      · cases k
    · cases k
  · cases k
theorem field_snd (hT : T.Ok P) {s : TypeId} {x : Operand} {f : Nat} (ho : o.op = .field s x f) (k : oField T (fld (T.ti s) f) (env.ev x) = some (v, eff)) : Exec P o env H v (eff.app H) := by
  unfold oField at k
  split at k
  · rename_i ft off u cs hf hs
    obtain ⟨fs, hd, hf'⟩ := fld_eq hT hf
    obtain ⟨k2, rfl⟩ := kpO_some k
    exact exec_field ho hs hd hf' (partT_eq hT k2)
  · cases k
theorem makeSlice_snd (hT : T.Ok P) {t : TypeId} {l c : Operand} (ho : o.op = .makeSlice t l c) (hn : n = H.length ∨ eff = .keep) (k : oMakeSlice T n (T.ti t) (env.ev l) (env.ev c) = some (v, eff)) : Exec P o env H v (eff.app H) := by
  unfold oMakeSlice at k
  split at k
  · rename_i el q1 a q2 b hd h1 h2
    rw [hT.eq hd (by simp)] at hd
    simp only at k
    replace k := chk_some k
    obtain ⟨hc, k⟩ := k
    simp only [Bool.and_eq_true, Nat.beq_eq, ble_le] at hc
    obtain ⟨⟨⟨⟨⟨hab, hb⟩, hok⟩, hz⟩, hzn⟩, hby⟩ := hc
    obtain ⟨e1, e2⟩ := hT.ok hok
    rw [e1] at hz hzn hby k
    split at k
    · obtain ⟨rfl, rfl⟩ := kp_some k
      have : a = 0 := by omega
      subst this
      exact exec_make0 ho h1 h2 hd e2 hz hzn
    · cases k
      rcases hn with hn | hn
      · subst hn
        exact exec_make ho h1 h2 hd e2 hz hzn hab hb hby
      · cases hn
  · cases k
theorem makeMap_snd (hT : T.Ok P) {t : TypeId} {r : Option Operand} {e : BT AV} (he : ∀ x, ev1 e x = env.ev x) (ho : o.op = .makeMap t r) (hn : n = H.length ∨ eff = .keep) (k : oMakeMap T n (T.ti t) (oReserve e r) = some (v, eff)) : Exec P o env H v (eff.app H) := by
  unfold oMakeMap at k
  split at k
  · rename_i kT eT hd
    rw [hT.eq hd (by simp)] at hd
    split at k
    · replace k := chk_some k
      obtain ⟨hc, k⟩ := k
      cases k
      rcases hn with hn | hn
      · subst hn
        refine exec_makeMap' ho hd fun x hx => ?_
        subst hx
        simp only [oReserve, he] at hc
        unfold isInt at hc
        split at hc
        · rename_i q i hs; exact ⟨q, i, hs⟩
        · cases hc
      · cases hn
    · cases k
  · cases k
theorem oconv_snd (hT : T.Ok P) {s d : TypeId} {x : Operand} (ho : o.op = .convert s d x) (hh : HOk h H) (hu : ∀ x, (env.ev x).under H.length) (hn : n = H.length ∨ eff = .keep) (k : oConv T h n s d (env.ev x) = some (v, eff)) : Exec P o env H v (eff.app H) := by
  unfold oConv at k
  split at k
  · rename_i id off hs
    have hux := hu x
    rw [hs] at hux
    simp only [AV.under] at hux
    unfold oUns at k
    split at k
    · rename_i hd
      split at k
      · rename_i t ty cs hp hob
        rw [hT.eq hp (by simp)] at hp
        have hH := hh.at hux hob (by simp)
        simp only at k
        replace k := chk_some k
        obtain ⟨hc, k⟩ := k
        simp only [Bool.and_eq_true, Bool.not_eq_true', ← Bool.not_eq_true, Nat.beq_eq, blt_lt, lenK_eq] at hc
        obtain ⟨e1, e2⟩ := hT.ok hc.1.1
        obtain ⟨rfl, rfl⟩ := kp_some k
        exact exec_toUnsafe ho hs hp e2 (by rw [← e1]; exact hc.1.2) (hT.unsf _ hd) hH hc.2
      · cases k
    · split at k
      · rename_i hd
        split at k
        · rename_i u ty cs hp hob
          rw [hT.eq hp (by simp)] at hp
          have hH := hh.at hux hob (by simp)
          simp only at k
          replace k := chk_some k
          obtain ⟨hc, k⟩ := k
          simp only [Bool.and_eq_true, Bool.not_eq_true', ← Bool.not_eq_true, Nat.beq_eq, ble_le, lenK_eq] at hc
          obtain ⟨⟨⟨⟨c1, c2⟩, rfl⟩, rfl⟩, c5⟩ := hc
          obtain ⟨e1, e2⟩ := hT.ok c1
          obtain ⟨rfl, rfl⟩ := kp_some k
          rw [e1] at c2 c5
          exact exec_fromUnsafe ho hs (hT.unsf _ hd) hp e2 c2 hH c5
        · cases k
      · cases k
  · exact conv_snd hT ho hh (hu _) hn k
theorem un_snd {op : UnOp} {t : TypeId} {x : Operand} (ho : o.op = .unOp op t x) (k : oUn op (env.ev x) = some (v, eff)) : Exec P o env H v (eff.app H) := by
  unfold oUn at k
  split at k
  · unfold oNot at k
    split at k
    · rename_i hs
      obtain ⟨rfl, rfl⟩ := kp_some k
      exact exec_not ho hs
    · cases k
  · unfold oNeg at k
    split at k
    · rename_i hs
      obtain ⟨rfl, rfl⟩ := kp_some k
      exact exec_neg ho hs
    · cases k
  · cases k
/-- What the evaluator says of one operation is so. -/
theorem evOp_snd (hT : T.Ok P) {e : BT AV} (he : ∀ x, ev1 e x = env.ev x) (hh : HOk h H) (hu : ∀ x, (env.ev x).under H.length) (hiu : ∀ (id m : Nat) (a b : List Key) (c : Option Key), H[id]? = some (AObj.iter m a b c) → m < H.length) (hn : n = H.length ∨ eff = .keep) (k : evOp T o.op e h n = some (v, eff)) : Exec P o env H v (eff.app H) := by
  unfold evOp at k
  split at k <;> (rename_i ho; try simp only [he] at k)
  · obtain ⟨rfl, rfl⟩ := kp_some k; exact exec_move (.inl ho)
  · obtain ⟨rfl, rfl⟩ := kp_some k; exact exec_move (.inr ho)
  · rename_i c x y
    unfold oPick at k
    split at k
    · rename_i b hs
      have := exec_pick (P := P) (H := H) ho hs
      cases b <;> (obtain ⟨rfl, rfl⟩ := kp_some k; simpa using this)
    · cases k
  · unfold oAlloc at k
    replace k := chk_some k
    obtain ⟨hc, k⟩ := k
    have h1 := hT.solid hc
    rw [h1] at hc k
    cases k
    rcases hn with hn | hn
    · subst hn; exact exec_alloc ho hc
    · cases hn
  · unfold oAlloc at k
    replace k := chk_some k
    obtain ⟨hc, k⟩ := k
    cases k
    rcases hn with hn | hn
    · subst hn; exact exec_box ho rfl hc
    · cases hn
  · exact build_snd hT ho k
  · exact buildSlice_snd hT ho k
  · exact load_snd hT ho hh (hu _) k
  · exact store_snd hT ho hh (hu _) k
  · exact nil_snd ho hh (hu _) k
  · exact bin_snd hT ho hh (hu _) k
  · exact un_snd ho k
  · exact oconv_snd hT ho hh hu hn k
  · rename_i t x
    unfold oIface at k
    split at k
    · cases k
    · cases k
    · rename_i hnb hni
      obtain ⟨rfl, rfl⟩ := kp_some k
      have hd : T.ti t = P.ti t := hT.ti t (fun e => hnb e)
      exact exec_makeIface ho rfl (by rw [← hd]; exact fun e => hnb e) (fun b => by rw [← hd]; exact fun e => hni _ e)
  · obtain ⟨rfl, rfl⟩ := kp_some k
    rw [evs_eq he, evs_eq he]
    exact exec_makeFunc ho
  · exact makeMap_snd hT he ho hn k
  · exact makeSlice_snd hT ho hn k
  · exact oslice_snd hT ho he hh (hu _) k
  · exact fieldAddr_snd hT ho hh hu k
  · exact field_snd hT ho k
  · exact indexAddr_snd hT ho hh (hu _) k
  · exact index_snd hT ho k
  · exact lookup_snd hT ho hh (hu _) k
  · exact update_snd hT (.inl ho) hh (hu _) k
  · exact update_snd hT (.inr ho) hh (hu _) k
  · rename_i t i
    unfold oExtract at k
    split at k
    · rename_i xs hs
      obtain ⟨k2, rfl⟩ := kpO_some k
      rw [nth_eq] at k2
      exact exec_extract ho hs k2
    · cases k
  · exact assert_snd hT ho k
  · exact range_snd hT ho hh hu hn k
  · exact nextS_snd ho hh hu k
  · exact entry_snd ho hh hu hiu k
  · exact call_snd hT ho he hh hu hn k
  · cases k
end Go.Ab
end
