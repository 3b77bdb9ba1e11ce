/- A part of a proof: rules for reading Go code as code over plain values, and what follows for this program. Its conditions stand in each statement. -/
import Derived.Test.YtackcjahocaonaaGreatDoorAbE
section
set_option linter.unusedSimpArgs false
set_option linter.unusedVariables false
/-! What the evaluator says of one operation is so. -/
namespace Go.Ab
variable {P : Program} {T : Tab} {o : Oper} {H : Heap}

/-! ### The quick forms are the plain ones -/
theorem nth_eq {α : Type} (l : List α) (i : Nat) : nth l i = l[i]? := by
  induction l generalizing i with
  | nil => rfl
  | cons x l ih => cases i with
    | zero => rfl
    | succ i => rw [List.getElem?_cons_succ, ← ih]; rfl
@[simp] theorem lenK_eq {α : Type} (l : List α) : lenK l = l.length := by
  induction l with
  | nil => rfl
  | cons x l ih => show Nat.succ (lenK l) = _; rw [ih]; rfl
theorem ble_le {a b : Nat} : Nat.ble a b = true ↔ a ≤ b := by simp [Nat.ble_eq]
theorem blt_lt {a b : Nat} : Nat.blt a b = true ↔ a < b := by simp [Nat.blt, Nat.ble_eq, Nat.succ_le_iff]
theorem wrap_pos {k : IntKind} {m : Nat} (h : m < kbound k) : k.wrap (m : Int) = m := by
  cases k <;> simp only [kbound] at h <;> unfold IntKind.wrap <;> simp only [IntKind.bits, IntKind.signed] <;> simp
  all_goals first
    | (rw [if_neg (by omega)]; omega)
    | omega
theorem wrap_neg {k : IntKind} {m : Nat} (hk : kneg k = true) (h : m < kbound k) : k.wrap (Int.negSucc m) = Int.negSucc m := by
  cases k <;> simp only [kneg, Bool.false_eq_true] at hk <;> simp only [kbound] at h <;> unfold IntKind.wrap <;> simp only [IntKind.bits, IntKind.signed] <;> simp only [Int.negSucc_eq] <;> simp
  all_goals (rw [if_pos (by omega)]; omega)
theorem wrapF_eq (k : IntKind) (i : Int) : wrapF k i = k.wrap i := by
  unfold wrapF
  cases i with
  | ofNat m =>
    simp only
    split
    · rename_i h
      rw [blt_lt] at h
      exact (wrap_pos h).symm
    · rfl
  | negSucc m =>
    simp only
    split
    · rename_i h
      rw [Bool.and_eq_true, blt_lt] at h
      exact (wrap_neg h.1 h.2).symm
    · rfl
theorem addF_eq (a b : Int) : addF a b = a + b := by cases a <;> cases b <;> rfl
theorem subF_eq (a b : Int) : subF a b = a - b := by
  cases a <;> cases b <;> simp only [subF]
  split
  · rename_i h; rw [ble_le] at h; simp only [Nat.sub_eq, Int.ofNat_eq_natCast]; omega
  · rename_i h
    have h' : ¬ _ ≤ _ := fun k => by rw [ble_le.2 k] at h; cases h
    simp only [Nat.sub_eq, Int.ofNat_eq_natCast, Int.negSucc_eq]
    omega
theorem mulF_eq (a b : Int) : mulF a b = a * b := by cases a <;> cases b <;> rfl
theorem eqF_eq (a b : Int) : eqF a b = (a == b) := by
  rw [Bool.eq_iff_iff, beq_iff_eq]
  cases a <;> cases b <;> simp only [eqF, Nat.beq_eq, Int.ofNat_eq_natCast, Int.negSucc_eq, Bool.false_eq_true, false_iff] <;> omega
theorem ltF_eq (a b : Int) : ltF a b = decide (a < b) := by
  rw [Bool.eq_iff_iff, decide_eq_true_eq]
  cases a <;> cases b <;> simp only [ltF, blt_lt, Int.ofNat_eq_natCast, Int.negSucc_eq, Bool.false_eq_true, false_iff, true_iff] <;> omega
theorem sameK_eq {a b : IntKind} : sameK a b = true ↔ a = b := by cases a <;> cases b <;> simp [sameK, kNo]
theorem eqB_eq (a b : List UInt8) : eqB a b = decide (a = b) := by
  rw [Bool.eq_iff_iff, decide_eq_true_eq]
  induction a generalizing b with
  | nil => cases b <;> simp [eqB]
  | cons x a ih =>
    cases b with
    | nil => simp [eqB]
    | cons y b =>
      simp only [eqB, List.cons.injEq]
      split
      · rename_i h
        rw [Nat.beq_eq] at h
        rw [ih, UInt8.toNat_inj.1 h]
        simp
      · rename_i h
        simp only [Bool.false_eq_true, false_iff, not_and]
        intro hxy
        rw [hxy] at h
        simp at h
theorem iEq_eq {a b : List Int} : iEq a b = true ↔ a = b := by
  induction a generalizing b with
  | nil => cases b <;> simp [iEq]
  | cons x a ih =>
    cases b with
    | nil => simp [iEq]
    | cons y b =>
      simp only [iEq, List.cons.injEq]
      split
      · rename_i h
        rw [eqF_eq, beq_iff_eq] at h
        rw [ih, h]
        simp
      · rename_i h
        simp only [Bool.false_eq_true, false_iff, not_and]
        intro hxy
        rw [hxy, eqF_eq] at h
        simp at h
theorem eqb_eq {a b : Key} : a.eqb b = true ↔ a = b := by
  cases a <;> cases b <;> simp only [Key.eqb, reduceCtorEq, Bool.false_eq_true, eqF_eq, beq_iff_eq, Key.int.injEq, Key.str.injEq, Key.bool.injEq, Key.nums.injEq, eqB_eq, decide_eq_true_eq, iEq_eq]
theorem mgetF_eq (es : List (Key × AV)) (k : Key) : mgetF es k = mget es k := by
  induction es with
  | nil => rfl
  | cons x r ih =>
    obtain ⟨q, v⟩ := x
    simp only [mgetF, mget]
    split
    · rename_i h; rw [if_pos (eqb_eq.1 h)]
    · rename_i h; rw [if_neg (fun e => by rw [eqb_eq.2 e] at h; cases h), ih]
theorem mputF_eq (es : List (Key × AV)) (k : Key) (z : AV) : mputF es k z = mput es k z := by
  induction es with
  | nil => rfl
  | cons x r ih =>
    obtain ⟨q, v⟩ := x
    simp only [mputF, mput]
    split
    · rename_i h; have := eqb_eq.1 h; subst this; rw [if_pos rfl]
    · rename_i h; rw [if_neg (fun e => by rw [eqb_eq.2 e] at h; cases h), ih]
theorem mins_perm (es : List (Key × AV)) (k : Key) (z : AV) : (mins es k z).Perm ((k, z) :: es) := by
  induction es with
  | nil => exact List.Perm.refl _
  | cons x r ih =>
    obtain ⟨q, u⟩ := x
    simp only [mins]
    split
    · exact List.Perm.refl _
    · exact (ih.cons _).trans (List.Perm.swap _ _ _)
theorem upd_mset {es : List (Key × AV)} (hn : (es.map (·.1)).Nodup) (k : Key) (z : AV) : Upd es k z (mset es k z) := by
  unfold mset
  cases hg : mgetF es k with
  | some v => simp only [mputF_eq]; exact upd_mput hn k z
  | none =>
    rw [mgetF_eq] at hg
    have hk := mget_none_iff hg
    have hp := mins_perm es k z
    refine ⟨(hp.map _).nodup_iff.2 (by simpa using ⟨by simpa using hk, hn⟩), fun x => ?_, by rw [hp.length_eq, if_neg hk]; rfl⟩
    rw [hp.mem_iff, List.mem_cons]
    constructor
    · rintro (h | h)
      · exact .inl h
      · exact .inr ⟨h, fun e => hk (by rw [← e]; exact List.mem_map_of_mem (f := (·.1)) h)⟩
    · rintro (h | ⟨h, _⟩)
      · exact .inl h
      · exact .inr h
theorem kteqb_eq {a b : KT} : a.eqb b = true ↔ a = b := by
  cases a <;> cases b <;> simp [KT.eqb, sameK_eq]
theorem eqCell_eq (l : LK) (x y : AV) : eqCell l x y = eqLeaf l x y := by
  cases l <;> cases x <;> cases y <;> simp only [eqCell, eqLeaf, eqB_eq]
  rename_i j k a q b
  cases hjk : sameK j k && sameK j q with
  | true =>
    rw [Bool.and_eq_true, sameK_eq, sameK_eq] at hjk
    simp only [if_pos hjk, eqF_eq]
  | false =>
    rw [if_neg (fun e => by rw [sameK_eq.2 e.1, sameK_eq.2 e.2] at hjk; cases hjk)]
theorem eqCells_eq : ∀ (ls : List LK) (xs ys : List AV), eqCells ls xs ys = eqLeafs ls xs ys := by
  intro ls
  induction ls with
  | nil => intro xs ys; cases xs <;> cases ys <;> rfl
  | cons l ls ih =>
    intro xs ys
    cases xs with
    | nil => rfl
    | cons x xs =>
      cases ys with
      | nil => rfl
      | cons y ys =>
        simp only [eqCells, eqLeafs, eqCell_eq, ih]
        cases eqLeaf l x y <;> cases eqLeafs ls xs ys <;> rfl
theorem splice_eq (xs : List AV) (off : Nat) (ys : List AV) : splice xs off ys = spliceL xs off ys := by simp [splice, spliceL]

/-! ### What the tables say -/
structure Tab.Ok (P : Program) (T : Tab) : Prop where
  ti : ∀ t, (T.ti t).d ≠ .bad → T.ti t = P.ti t
  bad : ∀ t, (T.ti t).d = .bad → (T.ti t).zero = .junk
  cmp : ∀ t, T.cmp t = true → P.cmpOk t
  unsf : ∀ t, T.unsf t = true → P.underlying t = some .unsafePointer
  byt : ∀ f, T.ext f = some .indexByteString → ExtFn P f "internal/bytealg.IndexByteString" Extern.BytealgIndexByte.indexByte
  esc : ∀ f, T.ext f = some .noEscape → ExtFn P f "internal/abi.NoEscape" Extern.AbiNoEscape.same
  mkz : ∀ f, T.ext f = some .makeNoZero → ∃ ps rs t, ExtFn P f "internal/bytealg.MakeNoZero" (Extern.BytealgMakeNoZero.makeNoZero ps rs) ∧ rs[0]? = some t ∧ (P.ti t).d = .slice T.u8
theorem tiok {t : TI} : t.ok = true ↔ t.d ≠ .bad := by
  unfold TI.ok
  cases t.d <;> simp
theorem Tab.Ok.eq {t : TypeId} {d : Desc} (hT : T.Ok P) (h : (T.ti t).d = d) (hd : d ≠ .bad) : T.ti t = P.ti t := hT.ti t (by rw [h]; exact hd)
theorem Tab.Ok.ok {t : TypeId} (hT : T.Ok P) (h : (T.ti t).ok = true) : T.ti t = P.ti t ∧ (P.ti t).d ≠ .bad := by
  have := hT.ti t (tiok.1 h)
  exact ⟨this, by rw [← this]; exact tiok.1 h⟩
theorem Tab.Ok.solid {t : TypeId} (hT : T.Ok P) (h : (T.ti t).zero.solid = true) : T.ti t = P.ti t := by
  refine hT.ti t fun hb => ?_
  rw [hT.bad t hb] at h
  cases h
theorem Tab.Ok.zero {t : TypeId} (hT : T.Ok P) (h : isJunk (T.ti t).zero = false) : T.ti t = P.ti t ∧ (P.ti t).zero ≠ .junk := by
  have h1 : T.ti t = P.ti t := by
    refine hT.ti t fun hb => ?_
    rw [hT.bad t hb] at h
    cases h
  refine ⟨h1, fun hj => ?_⟩
  rw [h1, hj] at h
  cases h
def Eff.app (H : Heap) : Eff → Heap
  | .keep => H
  | .push o => H ++ [o]
  | .set id o => H.set id o
@[simp] theorem app_keep : Eff.app H .keep = H := rfl
@[simp] theorem app_push {o : AObj} : Eff.app H (.push o) = H ++ [o] := rfl
@[simp] theorem app_set {id : Nat} {o : AObj} : Eff.app H (.set id o) = H.set id o := rfl
/-- Objects as the tree has them. -/
def HOk (h : BT AObj) (H : Heap) : Prop := ∀ id, id < H.length → obj h id = .dead ∨ H[id]? = some (obj h id)
theorem HOk.at {h : BT AObj} {id : Nat} {x : AObj} (k : HOk h H) (hid : id < H.length) (ho : obj h id = x) (hx : x ≠ .dead) : H[id]? = some x := by
  rcases k id hid with h1 | h1
  · exact absurd (ho.symm.trans h1) hx
  · rw [h1, ho]
theorem kp_some {x v : AV} {eff : Eff} (h : kp x = some (v, eff)) : v = x ∧ eff = .keep := by cases h; exact ⟨rfl, rfl⟩
theorem kpO_some {x : Option AV} {v : AV} {eff : Eff} (h : kpO x = some (v, eff)) : x = some v ∧ eff = .keep := by
  cases x with
  | none => cases h
  | some x => cases h; exact ⟨rfl, rfl⟩
theorem chk_some {b : Bool} {r : R1} {p : AV × Eff} (h : chk b r = some p) : b = true ∧ r = some p := by
  cases b with
  | false => cases h
  | true => exact ⟨rfl, h⟩
theorem partT_eq {t : TypeId} (hT : T.Ok P) {cs : List AV} {off : Nat} {x : AV} (h : partT (T.ti t) cs off = some x) : P.part t cs off = some x := by
  have hb : (T.ti t).d ≠ .bad := by intro hb; simp only [partT, hb] at h; cases h
  have e := hT.ti t hb
  rw [e] at h hb
  unfold partT at h
  unfold Program.part
  split at h
  · cases h
  · rename_i fs hd
    rw [hd]
    simp only [Desc.agg, if_true]
    split at h
    · rename_i hle; rw [ble_le, lenK_eq] at hle; rw [if_pos hle]; exact h
    · cases h
  · rename_i n el hd
    rw [hd]
    simp only [Desc.agg, if_true]
    split at h
    · rename_i hle; rw [ble_le, lenK_eq] at hle; rw [if_pos hle]; exact h
    · cases h
  · rename_i h1 h2 h3
    rw [nth_eq] at h
    have hag : (P.ti t).d.agg = false := by
      cases hd : (P.ti t).d <;> first | rfl | exact absurd hd (h2 _) | exact absurd hd (h3 _ _)
    split
    · rename_i hd; exact absurd hd h1
    · simp only [hag, Bool.false_eq_true, if_false]
      exact h
theorem leafFs_T (hT : T.Ok P) : ∀ (fs : List (TypeId × Nat × Bool)) (i : Nat) (ls : List LK), leafFs T.ti i fs = some ls → leafFs P.ti i fs = some ls := by
  intro fs
  induction fs with
  | nil => intro i ls h; exact h
  | cons f r ih =>
    intro i ls h
    obtain ⟨ft, off, bl⟩ := f
    simp only [leafFs] at h ⊢
    split at h
    · rename_i l hl
      have : (T.ti ft).d ≠ .bad := by intro hb; rw [hb] at hl; cases hl
      rw [hT.ti ft this] at hl
      rw [hl]
      simp only
      split at h
      · rename_i hb
        split at h
        · rename_i ls' hr; rw [ih _ _ hr]; exact h
        · cases h
      · cases h
    · cases h
theorem leaves_T (hT : T.Ok P) {t : TypeId} {ls : List LK} (h : leaves T.ti (T.ti t).d = some ls) : T.ti t = P.ti t ∧ leaves P.ti (P.ti t).d = some ls := by
  have hb : (T.ti t).d ≠ .bad := by intro hb; rw [hb] at h; cases h
  have e := hT.ti t hb
  refine ⟨e, ?_⟩
  rw [e] at h
  unfold leaves at h ⊢
  split at h
  · rename_i fs hd; exact leafFs_T hT _ _ _ h
  · rename_i n el hd
    split at h
    · rename_i l hl
      have : (T.ti el).d ≠ .bad := by intro hb; rw [hb] at hl; cases hl
      rw [hT.ti el this] at hl h
      rw [hl]
      exact h
    · cases h
  · cases h

/-! ### Operations -/
section
variable {env : Env} {h : BT AObj} {n : Nat} {v : AV} {eff : Eff}
theorem load_snd (hT : T.Ok P) {t : TypeId} {x : Operand} (ho : o.op = .load t x) (hh : HOk h H) (hu : (env.ev x).under H.length) (k : evLoad h (T.ti t) (env.ev x) = some (v, eff)) : Exec P o env H v (eff.app H) := by
  cases hx : env.ev x <;> rw [hx] at k hu <;> simp only [evLoad, reduceCtorEq] at k
  · split at k
    · rename_i ty cs hob
      replace k := kpO_some k
      obtain ⟨k, rfl⟩ := k
      simp only [AV.under] at hu
      exact exec_load_ptr ho hx (hh.at hu hob (by simp)) (partT_eq hT k)
    · cases k
  · split at k
    · rename_i z hz
      replace k := kpO_some k
      obtain ⟨k, rfl⟩ := k
      rw [nth_eq] at hz
      exact exec_load_eptr ho hx hz (partT_eq hT k)
    · cases k
  · split at k
    · rename_i ty g' sz xs hob
      replace k := chk_some k
      obtain ⟨hg, k⟩ := k
      rw [Nat.beq_eq] at hg
      subst hg
      split at k
      · rename_i z hz
        replace k := kpO_some k
        obtain ⟨k, rfl⟩ := k
        rw [nth_eq] at hz
        simp only [AV.under] at hu
        exact exec_load_vptr ho hx (hh.at hu hob (by simp)) hz (partT_eq hT k)
      · cases k
    · cases k
theorem store_snd (hT : T.Ok P) {t : TypeId} {x z : Operand} (ho : o.op = .store t x z) (hh : HOk h H) (hu : (env.ev x).under H.length) (k : evStore h (T.ti t) (env.ev z) (env.ev x) = some (v, eff)) : Exec P o env H v (eff.app H) := by
  cases hx : env.ev x <;> rw [hx] at k hu <;> simp only [evStore, reduceCtorEq] at k
  · split at k
    · rename_i ty cs hob
      replace k := chk_some k
      obtain ⟨hc, k⟩ := k
      cases k
      simp only [Bool.and_eq_true, Nat.beq_eq, ble_le, lenK_eq] at hc
      obtain ⟨⟨⟨h1, h2⟩, h3⟩, h4⟩ := hc
      obtain ⟨e1, e2⟩ := hT.ok h2
      rw [e1] at h3
      simp only [AV.under] at hu
      exact exec_store_ptr ho hx rfl (hh.at hu hob (by simp)) h1 e2 h3 h4
    · cases k
  · split at k
    · rename_i ty g' sz xs hob
      split at k
      · rename_i u hz
        replace k := chk_some k
        obtain ⟨hc, k⟩ := k
        cases k
        simp only [Bool.and_eq_true, Nat.beq_eq, ble_le] at hc
        obtain ⟨⟨⟨⟨rfl, h1⟩, h2⟩, h3⟩, h4⟩ := hc
        obtain ⟨e1, e2⟩ := hT.ok h2
        rw [e1] at h3
        rw [nth_eq] at hz
        simp only [AV.under] at hu
        exact exec_store_vptr ho hx rfl (hh.at hu hob (by simp)) hz h1 e2 h3 h4
      · cases k
    · cases k
theorem build_T (hT : T.Ok P) {fs : List (TypeId × Nat × Bool)} (hfs : ∀ f ∈ fs, (T.ti f.1).ok = true) : ∀ (ps : List (Nat × AV)) (cs cs' : List AV), evBuild T fs ps cs = some cs' → buildCells P fs ps cs = some cs' := by
  intro ps
  induction ps with
  | nil => intro cs cs' k; exact k
  | cons p ps ih =>
    intro cs cs' k
    obtain ⟨i, y⟩ := p
    simp only [evBuild] at k
    simp only [buildCells]
    rw [nth_eq] at k
    split at k
    · rename_i ft off b hf
      rw [hf]
      simp only
      split at k
      · rename_i hc
        simp only [Bool.and_eq_true, Nat.beq_eq, ble_le, lenK_eq] at hc
        obtain ⟨⟨h1, h2⟩, h3⟩ := hc
        obtain ⟨e1, _⟩ := hT.ok (hfs _ (List.mem_of_getElem? hf))
        rw [e1] at h1
        rw [if_pos ⟨h1, h2, h3⟩]
        exact ih _ _ k
      · cases k
    · cases k
theorem build_snd (hT : T.Ok P) {t : TypeId} {parts : Array (Nat × Operand)} (ho : o.op = .build t parts) (k : oBuild T (T.ti t) (parts.toList.map fun x => (x.1, env.ev x.2)) = some (v, eff)) : Exec P o env H v (eff.app H) := by
  unfold oBuild at k
  split at k
  · rename_i fs zs hd hz
    have e := hT.eq hd (by simp)
    rw [e] at hd hz
    replace k := chk_some k
    obtain ⟨hc, k⟩ := k
    rw [List.all_eq_true] at hc
    split at k
    · rename_i cs hb
      cases k
      exact exec_build ho hd hz (fun f hf => (hT.ok (hc f hf)).2) (build_T hT hc _ _ _ hb)
    · cases k
  · rename_i m el zs hd hz
    have e := hT.eq hd (by simp)
    rw [e] at hd hz
    replace k := chk_some k
    obtain ⟨hc, k⟩ := k
    obtain ⟨e1, e2⟩ := hT.ok hc
    split at k
    · rename_i cs hb
      cases k
      have := build_T (P := P) hT (fun f hf => by obtain ⟨i, _, rfl⟩ := List.mem_map.1 hf; exact hc) _ _ _ hb
      rw [e1] at this
      exact exec_buildArr ho hd hz e2 this
    · cases k
  · cases k
theorem buildSlice_snd (hT : T.Ok P) {t : TypeId} {len : Nat} {parts : Array (Nat × Operand)} (ho : o.op = .buildSlice t len parts) (k : oBuildSlice T (T.ti t) len (parts.toList.map (·.1)) (parts.toList.map fun x => env.ev x.2) = some (v, eff)) : Exec P o env H v (eff.app H) := by
  unfold oBuildSlice at k
  split at k
  · rename_i el hd
    have e := hT.eq hd (by simp)
    rw [e] at hd
    replace k := chk_some k
    obtain ⟨hc, k⟩ := k
    simp only [Bool.and_eq_true, Nat.beq_eq, ble_le, decide_eq_true_eq, List.all_eq_true] at hc
    obtain ⟨⟨⟨⟨⟨h1, h2⟩, h3⟩, h4⟩, h5⟩, h6⟩ := hc
    obtain ⟨e1, e2⟩ := hT.ok h1
    rw [e1] at h2 h3 h5 h6
    obtain ⟨rfl, rfl⟩ := kp_some k
    split
    · rename_i hys
      have hlen : len = 0 := by
        have := congrArg List.length h4
        simp only [List.length_map, List.length_range] at this
        have h0 := congrArg List.length hys
        simp only [List.length_map, List.length_nil] at h0
        omega
      subst hlen
      exact exec_buildNone ho hd e2 h2 h3 h4
    · exact exec_buildSlice ho hd e2 rfl h2 h3 h4 rfl (fun y hy => (h5 y hy).1) (fun y hy => (h5 y hy).2) h6
  · cases k
theorem nil_snd {x : Operand} (ho : o.op = .nilCheck x) (hh : HOk h H) (hu : (env.ev x).under H.length) (k : evNil h (env.ev x) = some (v, eff)) : Exec P o env H v (eff.app H) := by
  unfold evNil at k
  split at k
  · rename_i hx; obtain ⟨rfl, rfl⟩ := kp_some k; exact exec_nilCheck ho rfl (.inl (by rw [hx]; rfl)) (fun id g i j h => by rw [hx] at h; cases h)
  · rename_i hx; obtain ⟨rfl, rfl⟩ := kp_some k; exact exec_nilCheck ho rfl (.inl (by rw [hx]; rfl)) (fun id g i j h => by rw [hx] at h; cases h)
  · rename_i hx; obtain ⟨rfl, rfl⟩ := kp_some k; exact exec_nilCheck ho rfl (.inr (.inr ⟨_, hx⟩)) (fun id g i j h => by rw [hx] at h; cases h)
  · rename_i hx; obtain ⟨rfl, rfl⟩ := kp_some k; exact exec_nilCheck ho rfl (.inr (.inl ⟨_, _, hx⟩)) (fun id g i j h => by rw [hx] at h; cases h)
  · rename_i id g i j hx
    split at k
    · rename_i ty g' sz xs hob
      replace k := chk_some k
      obtain ⟨hg, k⟩ := k
      rw [Nat.beq_eq] at hg
      subst hg
      obtain ⟨rfl, rfl⟩ := kp_some k
      rw [hx] at hu
      simp only [AV.under] at hu
      refine exec_nilCheck ho rfl (.inl (by rw [hx]; rfl)) fun id' g' i' j' h' => ?_
      rw [hx] at h'
      cases h'
      exact ⟨_, _, _, hh.at hu hob (by simp)⟩
    · cases k
  · cases k
end
end Go.Ab
end
