/- A part of a proof: rules for reading Go code as code over plain values, and what follows for this program. Its conditions stand in each statement. -/
import Derived.Test.YtackcjahocaonaaGreatDoorAbC
section
set_option linter.unusedSimpArgs false
set_option linter.unusedVariables false
/-! More operations. -/
namespace Go.Ab
variable {P : Program} {o : Oper} {e : Env} {H : Heap}

/-! ### == -/
/-- A struct or an array that may be compared as it lies. -/
def _root_.Go.Program.cmpOk (P : Program) (t : TypeId) : Prop := P.stoodInHeld t = false ∧ P.eqGuardType P.depth t = false
theorem exec_eq {op : BinOp} {t t' : TypeId} {x y : Operand} {r : Bool} (ho : o.op = .binOp op t x y t') (hop : op = .eql ∨ op = .neq)
    (h : ∀ (N : Fr) (G : Ghost) (a : Act) (w : World), Rel G H w → EnvRel N H.length G e a → (eqGuard op t x y (a.eval x) (a.eval y)).run P w = .ok () w ∧ (binOp .eql t (a.eval x) (a.eval y) = (do pure (.bool (← Op.equal t (a.eval x) (a.eval y))))) ∧
      (binOp .neq t (a.eval x) (a.eval y) = (do pure (.bool (!(← Op.equal t (a.eval x) (a.eval y)))))) ∧ (Op.equal t (a.eval x) (a.eval y)).run P w = .ok r w) :
    Exec P o e H (.bool (if op = .eql then r else !r)) H := .of_run fun N G a w hR hE => by
  obtain ⟨h1, h2, h3, h4⟩ := h N G a w hR hE
  refine ⟨.bool (if op = .eql then r else !r), ?_, by simp only [V]⟩
  simp only [execOp, ho]
  refine run_value P _ w w _ ?_
  rw [bindRun, h1]
  rcases hop with rfl | rfl
  · simp only [h2, bindRun, h4, pureRun, if_true]
  · simp only [h3, bindRun, h4, pureRun, reduceCtorEq, if_false]
theorem exec_eqSlice {op : BinOp} {t t' el : TypeId} {x y : Operand} (ho : o.op = .binOp op t x y t') (hop : op = .eql ∨ op = .neq) (ht : (P.ti t).d = .slice el) (hy : e.ev y = .nilS)
    (hx : ∀ (n : Nat) (G : Ghost) (w : World) (v : Value), n = H.length → Rel G H w → V n G (e.ev x) v → ∃ ad l c, v = .slice (some ad) l c) : Exec P o e H (.bool (if op = .eql then false else true)) H := by
  have := exec_eq (P := P) (e := e) (H := H) (r := false) ho hop fun N G a w hR hE => by
    obtain ⟨ad, l, c, hv⟩ := hx _ G w _ rfl hR (hE.ev x)
    have hy' := hE.ev y
    rw [hy] at hy'
    simp only [V] at hy'
    rw [hv, hy']
    refine ⟨eqGuard_ok rfl w, rfl, rfl, ?_⟩
    show (Op.equalIn (9999 + 1) t _ _).run P w = _
    rw [Op.equalIn]; simp only [bindRun, run_underlying (under_slice ht)]
    rfl
  rcases hop with rfl | rfl <;> simpa using this
theorem exec_eqPtr {op : BinOp} {t t' el : TypeId} {x y : Operand} {r : Bool} (ho : o.op = .binOp op t x y t') (hop : op = .eql ∨ op = .neq) (ht : (P.ti t).d = .pointer el)
    (h : (e.ev x = .nilP ∧ e.ev y = .nilP ∧ r = true) ∨ (∃ i k, e.ev x = .ptr i k ∧ e.ev y = .nilP ∧ r = false) ∨ (∃ i k, e.ev x = .ptr i k ∧ e.ev y = .ptr i k ∧ (P.ti el).d ≠ .bad ∧ (P.ti el).size ≠ 0 ∧ r = true)) : Exec P o e H (.bool (if op = .eql then r else !r)) H :=
  exec_eq (H := H) (r := r) ho hop fun N G a w hR hE => by
    have hx' := hE.ev x
    have hy' := hE.ev y
    rcases h with ⟨h1, h2, rfl⟩ | ⟨i, k, h1, h2, rfl⟩ | ⟨i, k, h1, h2, h3, h4, rfl⟩ <;> rw [h1] at hx' <;> rw [h2] at hy' <;> simp only [V] at hx' hy'
    · rw [hx', hy']
      refine ⟨eqGuard_ok rfl w, rfl, rfl, ?_⟩
      show (Op.equalIn (9999 + 1) t _ _).run P w = _
      rw [Op.equalIn]; simp only [bindRun, run_underlying (under_pointer ht)]
      rfl
    · rw [hx'.2.2, hy']
      refine ⟨eqGuard_ok rfl w, rfl, rfl, ?_⟩
      show (Op.equalIn (9999 + 1) t _ _).run P w = _
      rw [Op.equalIn]; simp only [bindRun, run_underlying (under_pointer ht)]
      rfl
    · rw [hx'.2.2, hy'.2.2]
      refine ⟨eqGuard_ok rfl w, rfl, rfl, ?_⟩
      show (Op.equalIn (9999 + 1) t _ _).run P w = _
      rw [Op.equalIn]; simp only [bindRun, run_underlying (under_pointer ht), run_sizeOf h3, ne_eq, h4, not_false_eq_true, if_true]
      simp [sameAddr, pureRun]
theorem exec_eqMap {op : BinOp} {t t' kT eT : TypeId} {x y : Operand} {r : Bool} (ho : o.op = .binOp op t x y t') (hop : op = .eql ∨ op = .neq) (ht : (P.ti t).d = .map kT eT)
    (h : (e.ev x = .nilM ∧ e.ev y = .nilM ∧ r = true) ∨ (∃ i, e.ev x = .map i ∧ e.ev y = .nilM ∧ r = false)) : Exec P o e H (.bool (if op = .eql then r else !r)) H :=
  exec_eq (H := H) (r := r) ho hop fun N G a w hR hE => by
    have hx' := hE.ev x
    have hy' := hE.ev y
    rcases h with ⟨h1, h2, rfl⟩ | ⟨i, h1, h2, rfl⟩ <;> rw [h1] at hx' <;> rw [h2] at hy' <;> simp only [V] at hx' hy'
    · rw [hx', hy']
      refine ⟨eqGuard_ok rfl w, rfl, rfl, ?_⟩
      show (Op.equalIn (9999 + 1) t _ _).run P w = _
      rw [Op.equalIn]; simp only [bindRun, run_underlying (under_map ht)]
      rfl
    · rw [hx'.2.2, hy']
      refine ⟨eqGuard_ok rfl w, rfl, rfl, ?_⟩
      show (Op.equalIn (9999 + 1) t _ _).run P w = _
      rw [Op.equalIn]; simp only [bindRun, run_underlying (under_map ht)]
      rfl
theorem under_iface {t : TypeId} {b : Bool} (h : (P.ti t).d = .iface b) : ∃ ms, P.underlying t = some (.interface ms) := by
  obtain ⟨u, hu, hd⟩ := ti_under (P := P) (t := t) (by rw [h]; simp)
  rw [h] at hd
  cases u <;> simp only [descOf, reduceCtorEq] at hd
  exact ⟨_, hu⟩
theorem exec_eqIface {op : BinOp} {t t' : TypeId} {b : Bool} {x y : Operand} {r : Bool} (ho : o.op = .binOp op t x y t') (hop : op = .eql ∨ op = .neq) (ht : (P.ti t).d = .iface b)
    (h : (e.ev x = .nilI ∧ e.ev y = .nilI ∧ r = true ∧ ((∃ v, x = .const v) ∨ ∃ v, y = .const v)) ∨ (∃ i k, e.ev x = .iface i k ∧ e.ev y = .nilI ∧ r = false)) : Exec P o e H (.bool (if op = .eql then r else !r)) H :=
  exec_eq (H := H) (r := r) ho hop fun N G a w hR hE => by
    have hx' := hE.ev x
    have hy' := hE.ev y
    obtain ⟨ms, hms⟩ := under_iface ht
    rcases h with ⟨h1, h2, rfl, hc⟩ | ⟨i, k, h1, h2, rfl⟩ <;> rw [h1] at hx' <;> rw [h2] at hy' <;> simp only [V] at hx' hy'
    · rw [hx', hy']
      refine ⟨?_, rfl, rfl, ?_⟩
      · rcases hop with rfl | rfl <;> rcases hc with ⟨v, rfl⟩ | ⟨v, rfl⟩
        · rfl
        · cases x <;> rfl
        · rfl
        · cases x <;> rfl
      · show (Op.equalIn (9999 + 1) t _ _).run P w = _
        rw [Op.equalIn]; simp only [bindRun, run_underlying hms]
        rfl
    · obtain ⟨v, hv, _⟩ := hx'
      rw [hv, hy']
      refine ⟨eqGuard_ok rfl w, rfl, rfl, ?_⟩
      show (Op.equalIn (9999 + 1) t _ _).run P w = _
      rw [Op.equalIn]; simp only [bindRun, run_underlying hms]
      rfl
/-- Two rows of leaves, as a proof sees them. -/
def eqLeaf (l : LK) (x y : AV) : Option Bool := match l, x, y with
  | .int j, .int k a, .int q b => if j = k ∧ j = q then some (a == b) else none
  | .str, .str a, .str b => some (decide (a = b))
  | .bool, .bool a, .bool b => some (a == b)
  | _, _, _ => none
def eqLeafs : List LK → List AV → List AV → Option Bool
  | [], [], [] => some true
  | l :: ls, x :: xs, y :: ys => match eqLeaf l x y, eqLeafs ls xs ys with
    | some a, some b => some (a && b)
    | _, _ => none
  | _, _, _ => none
theorem eqLeaf_spec {n : Nat} {G : Ghost} {l : LK} {x y : AV} {u v : Value} {b : Bool} (h : eqLeaf l x y = some b) (hu : V n G x u) (hv : V n G y v) : l.has u ∧ l.has v ∧ leafEq u v = b := by
  cases l <;> cases x <;> cases y <;> simp only [eqLeaf, reduceCtorEq] at h <;> simp only [V] at hu hv <;> subst hu hv
  · split at h
    · rename_i hk
      obtain ⟨rfl, rfl⟩ := hk
      cases h
      exact ⟨⟨_, rfl⟩, ⟨_, rfl⟩, rfl⟩
    · cases h
  · cases h
    exact ⟨⟨_, rfl⟩, ⟨_, rfl⟩, by simp only [leafEq, ba_beq]⟩
  · cases h
    exact ⟨⟨_, rfl⟩, ⟨_, rfl⟩, rfl⟩
theorem eqLeafs_spec {n : Nat} {G : Ghost} {c d : Array Value} : ∀ (ls : List LK) (xs ys : List AV) (q : Nat) (b : Bool), eqLeafs ls xs ys = some b → Vcells n G xs c q → Vcells n G ys d q →
    (∀ (i : Nat) (l : LK), ls[i]? = some l → (∃ v, c[q + i]? = some v ∧ l.has v) ∧ ∃ v, d[q + i]? = some v ∧ l.has v) ∧ ((List.range' q ls.length).all (leavesEq c d)) = b := by
  intro ls
  induction ls with
  | nil =>
    intro xs ys q b h _ _
    cases xs <;> cases ys <;> simp only [eqLeafs, reduceCtorEq, Option.some.injEq] at h
    subst h
    simp
  | cons l ls ih =>
    intro xs ys q b h hc hd
    cases xs with
    | nil => simp only [eqLeafs, reduceCtorEq] at h
    | cons x xs =>
      cases ys with
      | nil => simp only [eqLeafs, reduceCtorEq] at h
      | cons y ys =>
        simp only [eqLeafs] at h
        split at h
        · rename_i a b' h1 h2
          cases h
          simp only [Vcells] at hc hd
          obtain ⟨⟨u, hu, ku⟩, hc⟩ := hc
          obtain ⟨⟨v, hv, kv⟩, hd⟩ := hd
          obtain ⟨e1, e2⟩ := ih xs ys (q + 1) b' h2 hc hd
          obtain ⟨f1, f2, f3⟩ := eqLeaf_spec h1 ku kv
          refine ⟨fun i l' hl => ?_, ?_⟩
          · cases i with
            | zero => simp at hl; subst hl; exact ⟨⟨u, hu, f1⟩, v, hv, f2⟩
            | succ i => have := e1 i l' (by simpa using hl); rwa [show q + 1 + i = q + (i + 1) by omega] at this
          · simp only [List.length_cons, List.range'_succ, List.all_cons, e2]
            congr 1
            simp [leavesEq, Array.getD_eq_getD_getElem?, hu, hv, f3]
        · cases h
theorem exec_eqAgg {op : BinOp} {t t' : TypeId} {x y : Operand} {r : Bool} {ls : List LK} {xs ys : List AV} (ho : o.op = .binOp op t x y t') (hop : op = .eql ∨ op = .neq) (hc : P.cmpOk t) (ht : leaves P.ti (P.ti t).d = some ls)
    (hx : e.ev x = .agg xs) (hy : e.ev y = .agg ys) (hr : eqLeafs ls xs ys = some r) : Exec P o e H (.bool (if op = .eql then r else !r)) H :=
  exec_eq (H := H) (r := r) ho hop fun N G a w hR hE => by
    have hx' := hE.ev x
    have hy' := hE.ev y
    rw [hx] at hx'
    rw [hy] at hy'
    simp only [V] at hx' hy'
    obtain ⟨us, hu, _, ku⟩ := hx'
    obtain ⟨vs, hv, _, kv⟩ := hy'
    obtain ⟨e1, e2⟩ := eqLeafs_spec ls xs ys 0 r hr ku kv
    rw [hu, hv]
    refine ⟨?_, rfl, rfl, ?_⟩
    · unfold eqGuard
      rcases hop with rfl | rfl <;> simp [bindRun, program, Sem.run, hc.2, pureRun]
    · have := equal_leaves (P := P) ht hc.1 (xs := us) (ys := vs) (fun i l hl => by simpa using (e1 i l hl).1) (fun i l hl => by simpa using (e1 i l hl).2) w
      rw [List.range_eq_range', e2] at this
      exact this
end Go.Ab
end
section
set_option linter.unusedSimpArgs false
set_option linter.unusedVariables false
namespace Go.Ab
variable {P : Program} {o : Oper} {e : Env} {H : Heap}

/-! ### A new row -/
theorem V_row {n : Nat} {G : Ghost} {L : Loc} {v : Value} {b len cap : Nat} (hL : L.block = b ∧ L.base = 0 ∧ L.gen = 1 ∧ L.isNil = false ∧ cap * L.size ≤ L.room) (hv : v = .slice (some ⟨b, 0, none⟩) len cap) (hc : len ≤ cap) : V (n + 1) (G.put n L) (.view n 1 0 len) v := by
  obtain ⟨h1, h2, h3, h4, h5⟩ := hL
  simp only [V, Ghost.put_same]
  exact ⟨by omega, by omega, _, cap, hv, hc, fun _ => .inr ⟨h4, by rw [h1, h2]; simp, by rw [h2]; simpa using h5⟩⟩
/-- A new block of cells that are a row of one's own. -/
theorem Rel.newRow {G : Ghost} {w : World} (hR : Rel G H w) {el : TypeId} {sz cap : Nat} {xs : List AV} {arr : Array Value} (hs : arr.size = cap * sz) (hl : xs.length ≤ cap) (hr : Vrow H.length G sz xs arr 0) (w' : World) (hw' : w'.heap = w.heap.push (Obj.cells arr el)) (ho : w'.os = w.os ∧ w'.tape = w.tape ∧ w'.output = w.output) :
    Rel (G.put H.length (Loc.moved w.heap.size sz (cap * sz) 1)) (H ++ [.row el 1 sz xs]) w' ∧ Step H.length (H ++ [AObj.row el 1 sz xs]).length G w (G.put H.length (Loc.moved w.heap.size sz (cap * sz) 1)) w' :=
  hR.push (w' := w') (.row el 1 sz xs) _ (fun _ => ⟨rfl, by rw [hw']; simp⟩) (by rw [hw']; simp) (fun b hb => by rw [hw']; exact heap_push _ _ hb) ho
    ⟨rfl, rfl, rfl, .inr ⟨rfl, arr, by rw [hw']; simp [Loc.moved], by simp [Loc.moved, hs], by simp only [Loc.moved, Nat.zero_add]; exact Nat.mul_le_mul_right _ hl, Vrow.mono (Ext.push G _ _) _ _ _ _ hr⟩⟩
theorem V_moved {n b len cap sz : Nat} {G : Ghost} {v : Value} (hv : v = .slice (some ⟨b, 0, none⟩) len cap) (hc : len ≤ cap) : V (n + 1) (G.put n (Loc.moved b sz (cap * sz) 1)) (.view n 1 0 len) v :=
  V_row ⟨rfl, rfl, rfl, rfl, Nat.le_refl _⟩ hv hc
theorem run_askRoom (b : Nat) (w : World) : (askRoom b).run P w = .ok () w := by
  unfold askRoom
  split <;> rfl

/-! ### Literals -/
theorem exec_buildNone {t el : TypeId} {parts : Array (Nat × Operand)} (ho : o.op = .buildSlice t 0 parts) (ht : (P.ti t).d = .slice el) (hel : (P.ti el).d ≠ .bad) (hz : (P.ti el).zero.solid = true) (hzn : (P.ti el).zero.nc = (P.ti el).size)
    (hix : parts.toList.map (·.1) = List.range 0) : Exec P o e H .zS H := by
  intro N G a w hR hE
  have hp : parts.toList = [] := by simpa using hix
  obtain ⟨arr, hrun, ha, hl, hr⟩ := run_buildSlice (w := w) (ys := []) hE ht hel rfl hz hzn hix (by rw [hp]; rfl) (by simp) (by simp) (by simp)
  refine ⟨_, .slice (some ⟨w.heap.size, 0, none⟩) 0 0, _, _, ?_, .inl rfl, ?_, hR.sealed (.cells arr el)⟩
  · simp only [execOp, ho]
    exact run_value P _ w _ _ hrun
  · simp only [V]; exact ⟨_, rfl⟩
theorem fill_arr {n : Nat} {N : Fr} {G : Ghost} {a : Act} (hE : EnvRel N n G e a) {k : Nat} {el : TypeId} : ∀ (parts : List (Nat × Operand)) (cs cs' : List AV) (c : Array Value), Vcells n G cs c 0 → c.size = cs.length →
    buildCells P ((List.range k).map fun i => (el, i * (P.ti el).size, false)) (parts.map fun x => (x.1, e.ev x.2)) cs = some cs' →
    ∃ c', Instr.fill (fun i => some (i * (P.ti el).size, (P.ti el).size)) c (parts.map fun x => (x.1, a.eval x.2)) = some c' ∧ c'.size = cs'.length ∧ Vcells n G cs' c' 0 := by
  intro parts
  induction parts with
  | nil =>
    intro cs cs' c hc hs h
    simp only [List.map_nil, buildCells, Option.some.injEq] at h
    subst h
    exact ⟨c, rfl, hs, hc⟩
  | cons x parts ih =>
    intro cs cs' c hc hs h
    obtain ⟨i, x⟩ := x
    simp only [List.map_cons, buildCells] at h
    cases hf : ((List.range k).map fun i => (el, i * (P.ti el).size, false))[i]? with
    | none => rw [hf] at h; cases h
    | some q =>
      obtain ⟨ft, off, u⟩ := q
      rw [hf] at h
      dsimp only at h
      rw [List.getElem?_map, Option.map_eq_some_iff] at hf
      obtain ⟨i', hi', hfe⟩ := hf
      have hii : i' = i := by
        rw [List.getElem?_eq_some_iff] at hi'
        obtain ⟨h1, h2⟩ := hi'
        simpa using h2.symm
      subst hii
      simp only [Prod.mk.injEq] at hfe
      obtain ⟨rfl, rfl, rfl⟩ := hfe
      split at h
      · rename_i hok
        obtain ⟨k1, k2, k3⟩ := hok
        obtain ⟨v1, v2⟩ := V_cells (hE.ev x) (AV.solid_or k3)
        have hlen : (a.eval x).cells.toList.length = (e.ev x).cells.length := by rw [Array.length_toList, v1, AV.nc_eq]
        have k2' := k2
        rw [AV.nc_eq] at k2
        have hput := Vcells_put (off := i' * (P.ti el).size) (vs := (a.eval x).cells.toList) hc (by simpa using v2) hlen k2 (by omega)
        rw [Nat.zero_add] at hput
        obtain ⟨c', j1, j2, j3⟩ := ih _ cs' _ hput (by rw [wr_size, putCells_length k2, hs]) h
        refine ⟨c', ?_, j2, j3⟩
        simp only [List.map_cons, Instr.fill]
        rw [if_neg, foldl_wr]
        · exact j1
        · rw [v1]
          simp only [ne_eq, k1, not_true_eq_false, decide_false, Bool.false_or, decide_eq_true_eq, Nat.not_lt]
          omega
      · cases h
theorem exec_buildArr {t el : TypeId} {k : Nat} {parts : Array (Nat × Operand)} {cs zs : List AV} (ho : o.op = .build t parts) (ht : (P.ti t).d = .array k el) (hz : (P.ti t).zero = .agg zs) (hel : (P.ti el).d ≠ .bad)
    (hb : buildCells P ((List.range k).map fun i => (el, i * (P.ti el).size, false)) (parts.toList.map fun x => (x.1, e.ev x.2)) zs = some cs) : Exec P o e H (.agg cs) H :=
  .of_run fun N G a w hR hE => by
    obtain ⟨z, hz1, hz2⟩ := run_zero (P := P) (t := t) (by rw [hz]; simp) w
    have hV : V H.length G (.agg zs) z := by rw [← hz, hz2]; exact V_ofVal _ _ _ _
    obtain ⟨hzs, hzc⟩ := V_cells hV (.inr ⟨zs, rfl⟩)
    obtain ⟨c', k1, k2, k3⟩ := fill_arr (P := P) hE parts.toList zs cs z.cells hzc hzs hb
    refine ⟨.agg c', ?_, by simp only [V]; exact ⟨c', rfl, k2, k3⟩⟩
    simp only [execOp, ho]
    refine run_value P _ w w _ ?_
    have hk : (parts.map fun (i, x) => (i, a.eval x)).toList = parts.toList.map fun x => (x.1, a.eval x.2) := by simp
    simp only [Instr.build, bindRun, hz1, run_underlying (under_array ht), run_sizeOf hel, hk, k1, pureRun]

/-! ### make -/
theorem run_makeSlice {t el : TypeId} {k1 k2 : IntKind} {n m : Nat} {G : Ghost} {w : World} (ht : (P.ti t).d = .slice el) (hel : (P.ti el).d ≠ .bad) (hz : (P.ti el).zero.solid = true) (hzn : (P.ti el).zero.nc = (P.ti el).size) (hnm : n ≤ m) (hn : m ≤ 9223372036854775807) (hb : (P.ti el).bytes * m ≤ 281474976710656) :
    ∃ arr : Array Value, arr.size = m * (P.ti el).size ∧ Vrow H.length G (P.ti el).size (List.replicate m (P.ti el).zero) arr 0 ∧ (Instr.makeSlice t (.int k1 n) (.int k2 m)).run P w = .ok (.slice (some ⟨w.heap.size, 0, none⟩) n m) { w with heap := w.heap.push (.cells arr el) } := by
  obtain ⟨i, hi, his, hib⟩ := ti_info hel
  have hnj : (P.ti el).zero ≠ .junk := by intro k; rw [k] at hz; cases hz
  obtain ⟨z', hz1, hz2⟩ := run_zero hnj w
  have hV : V H.length G (P.ti el).zero z' := by rw [hz2]; exact V_ofVal _ _ _ _
  obtain ⟨hzs, hzc⟩ := V_cells hV (AV.solid_or hz)
  rw [hzn] at hzs
  generalize hsz : (P.ti el).size = sz at *
  have hw64 : IntKind.i64.wrap (n : Int) = n := wrap_i64 (by omega) (by omega)
  have hw64' : IntKind.i64.wrap (m : Int) = m := wrap_i64 (by omega) (by omega)
  have hbb : ¬ ((i.bytes : Int) * (m : Int) > 2 ^ 48) := by
    rw [hib] at hb
    rw [← Int.natCast_mul]
    show ¬ (_ > (281474976710656 : Int))
    omega
  let arr : Array Value := (Array.range (m * sz)).map ((if m * sz = 0 then #[] else z'.cells)[· % (if m * sz = 0 then #[] else z'.cells).size]!)
  have hsz0 : arr.size = m * sz := by simp [arr]
  refine ⟨arr, hsz0, Vrow_of fun i z hz' => ?_, ?_⟩
  · rw [List.getElem?_replicate] at hz'
    split at hz'
    · rename_i hin
      cases hz'
      refine ⟨hzn, Vcells_of fun j y hy => ?_⟩
      obtain ⟨u, hu, k⟩ := Vcells_get hzc hy
      refine ⟨u, ?_, k⟩
      have hj : j < sz := by rw [← hzn, AV.nc_eq]; rw [List.getElem?_eq_some_iff] at hy; exact hy.1
      have hne : ¬ m * sz = 0 := by
        intro h0
        rcases Nat.mul_eq_zero.1 h0 with h | h <;> omega
      have := madeCells_get z'.cells m i j (by omega) hin
      rw [hzs] at this
      simp only [arr, hne, if_false, hzs, Nat.zero_add, this]
      rw [← hu, Nat.zero_add]
    · cases hz'
  · simp only [Instr.makeSlice, bindRun, pureRun, run_underlying (under_slice ht), asInt, asIntOf, run_typeInfo hi, hw64, hw64', iteRun, run_askRoom, run_sizeOf hel, hsz, Int.toNat_natCast]
    have c1 : (decide ((m : Int) < 0) || decide ((i.bytes : Int) * (m : Int) > 2 ^ 48)) = false := by
      rw [Bool.or_eq_false_iff]; exact ⟨decide_eq_false (by omega), decide_eq_false hbb⟩
    rw [c1]
    simp only [Bool.false_or]
    have c2 : (decide ((n : Int) < 0) || decide ((n : Int) > (m : Int))) = false := by
      rw [Bool.or_eq_false_iff]; exact ⟨decide_eq_false (by omega), decide_eq_false (by omega)⟩
    simp only [c2, Bool.false_eq_true, if_false]
    by_cases h0 : m * sz = 0
    · simp only [arr, h0, if_true]
      rfl
    · simp only [arr, h0, if_false, hz1]
      rfl
theorem exec_make {t el : TypeId} {l c : Operand} {k1 k2 : IntKind} {n m : Nat} (ho : o.op = .makeSlice t l c) (hl : e.ev l = .int k1 n) (hc : e.ev c = .int k2 m)
    (ht : (P.ti t).d = .slice el) (hel : (P.ti el).d ≠ .bad) (hz : (P.ti el).zero.solid = true) (hzn : (P.ti el).zero.nc = (P.ti el).size) (hnm : n ≤ m) (hn : m ≤ 9223372036854775807) (hb : (P.ti el).bytes * m ≤ 281474976710656) :
    Exec P o e H (.view H.length 1 0 n) (H ++ [.row el 1 (P.ti el).size (List.replicate m (P.ti el).zero)]) := by
  intro N G a w hR hE
  have h1 := hE.ev l
  have h2 := hE.ev c
  rw [hl] at h1
  rw [hc] at h2
  simp only [V] at h1 h2
  obtain ⟨arr, ha, hr, hrun⟩ := run_makeSlice (H := H) (G := G) (w := w) (k1 := k1) (k2 := k2) ht hel hz hzn hnm hn hb
  refine ⟨_, .slice (some ⟨w.heap.size, 0, none⟩) n m, _, _, ?_, .inl rfl, ?_, hR.newRow ha (by simp) hr { w with heap := w.heap.push (.cells arr el) } rfl ⟨rfl, rfl, rfl⟩⟩
  · simp only [execOp, ho, h1, h2]
    exact run_value P _ w _ _ hrun
  · simpa using V_moved rfl hnm
theorem exec_make0 {t el : TypeId} {l c : Operand} {k1 k2 : IntKind} (ho : o.op = .makeSlice t l c) (hl : e.ev l = .int k1 (0 : Nat)) (hc : e.ev c = .int k2 (0 : Nat))
    (ht : (P.ti t).d = .slice el) (hel : (P.ti el).d ≠ .bad) (hz : (P.ti el).zero.solid = true) (hzn : (P.ti el).zero.nc = (P.ti el).size) : Exec P o e H .zS H := by
  intro N G a w hR hE
  have h1 := hE.ev l
  have h2 := hE.ev c
  rw [hl] at h1
  rw [hc] at h2
  simp only [V] at h1 h2
  obtain ⟨arr, ha, hr, hrun⟩ := run_makeSlice (H := H) (G := G) (w := w) (k1 := k1) (k2 := k2) (n := 0) (m := 0) ht hel hz hzn (Nat.le_refl _) (by omega) (by simp)
  refine ⟨_, .slice (some ⟨w.heap.size, 0, none⟩) 0 0, _, _, ?_, .inl rfl, ?_, hR.sealed (.cells arr el)⟩
  · simp only [execOp, ho, h1, h2]
    exact run_value P _ w _ _ hrun
  · simp only [V]; exact ⟨_, rfl⟩

/-! ### append onto what has no room -/
theorem run_appendOp {s x : Operand} {t1 t2 : TypeId} {a : Act} {w w' : World} {v : Value} (ho : o.op = .call { callee := .builtin .append, args := #[s, x], argTypes := #[t1, t2] })
    (h : (Builtin.append_ #[t1, t2] o.type #[a.eval s, a.eval x]).run P w = .ok v w') : (execOp a.eval o).run P w = .ok (.value v) w' := by
  simp only [execOp, ho, resolve, bindRun, pureRun, invoke, builtin, List.map_toArray, List.map_cons, List.map_nil, h]
/-- Onto an empty slice without room (nil, or not), something. -/
theorem exec_append_none {s x : Operand} {t1 t2 el : TypeId} {ys : List AV} {y : AV} (ho : o.op = .call { callee := .builtin .append, args := #[s, x], argTypes := #[t1, t2] })
    (hs : e.ev s = .nilS ∨ e.ev s = .zS) (hx : e.ev x = y) (hy : elemsOf H y = some ys) (hne : 0 < ys.length)
    (ht : (P.ti t1).d = .slice el) (ht2 : (P.ti t2).d = .string ∨ ∃ q, (P.ti t2).d = .slice q) (hel : (P.ti el).d ≠ .bad) (hz : (P.ti el).zero.solid = true) (hzn : (P.ti el).zero.nc = (P.ti el).size) (hby : 0 < (P.ti el).bytes)
    (hyn : ∀ z ∈ ys, z.nc = (P.ti el).size) (hys : ∀ z ∈ ys, z.solid = true) (hb : ys.length * (P.ti el).bytes ≤ 140737488355328) :
    Exec P o e H (.view H.length 1 0 ys.length) (H ++ [.row el 1 (P.ti el).size ys]) := by
  intro N G a w hR hE
  obtain ⟨ad, hs⟩ : ∃ ad, a.eval s = .slice ad 0 0 := by
    have h := hE.ev s
    rcases hs with hs | hs <;> rw [hs] at h <;> simp only [V] at h
    · exact ⟨_, h⟩
    · obtain ⟨ad, h⟩ := h; exact ⟨_, h⟩
  have h' := hE.ev x
  rw [hx] at h'
  have hR1 : Rel G H { w with drawn := w.drawn + 1 } := hR.drawn rfl
  obtain ⟨hx1, _⟩ := run_firstCells (P := P) hR h' hy hyn
  obtain ⟨_, arr, hx2, has, har⟩ := run_firstCells (P := P) hR1 h' hy hyn
  have hold : ∀ w : World, (Builtin.firstCells (P.ti el).size 0 (a.eval s)).run P w = .ok #[] w := by
    intro w
    rw [hs]
    cases ad with
    | none => rfl
    | some ad => simp only [Builtin.firstCells, loadCells, Nat.zero_mul, loadCellsFrom, pure, Sem.run]
  obtain ⟨newCap, rest, hnc, hrs, hrun1⟩ := run_append_grow (ty := o.type) ht ht2 hel rfl hz hzn hby hs hx1 hx2 (hold _) (by omega) (by simpa using hb)
  simp only [Nat.zero_add] at hnc hrs hrun1
  have hsz : (#[] ++ arr ++ rest : Array Value).size = newCap * (P.ti el).size := by
    simp only [Array.size_append, Array.size_empty, has, hrs, Nat.zero_add]
    rw [← Nat.add_mul]
    congr 1
    omega
  refine ⟨_, .slice (some ⟨w.heap.size, 0, none⟩) ys.length newCap, _, _, run_appendOp ho hrun1, .inl rfl, ?_, hR.newRow hsz hnc ?_ { w with heap := w.heap.push (.cells (#[] ++ arr ++ rest) el), drawn := w.drawn + 1 } rfl ⟨rfl, rfl, rfl⟩⟩
  · simpa using V_moved rfl hnc
  · refine Vrow_congr har fun j hj => ?_
    rw [Array.getElem?_append_left (by rw [Array.size_append]; simp; omega), Array.getElem?_append_right (by simp)]
    simp
/-- Onto an empty slice without room, nothing. -/
theorem exec_append_nothing {s x : Operand} {t1 t2 el : TypeId} {y : AV} (ho : o.op = .call { callee := .builtin .append, args := #[s, x], argTypes := #[t1, t2] })
    (hs : e.ev s = .nilS ∨ e.ev s = .zS) (hx : e.ev x = y) (hy : elemsOf H y = some [])
    (ht : (P.ti t1).d = .slice el) (ht2 : (P.ti t2).d = .string ∨ ∃ q, (P.ti t2).d = .slice q) (hel : (P.ti el).d ≠ .bad) : Exec P o e H (e.ev s) H :=
  .of_run fun N G a w hR hE => by
    obtain ⟨ad, hs'⟩ : ∃ ad, a.eval s = .slice ad 0 0 := by
      have h := hE.ev s
      rcases hs with hs | hs <;> rw [hs] at h <;> simp only [V] at h
      · exact ⟨_, h⟩
      · obtain ⟨ad, h⟩ := h; exact ⟨_, h⟩
    have h' := hE.ev x
    rw [hx] at h'
    obtain ⟨hx1, arr, hx2, has, har⟩ := run_firstCells (P := P) (size := (P.ti el).size) hR h' hy (by simp)
    have h0 : arr = #[] := Array.eq_empty_of_size_eq_zero (by simpa using has)
    subst h0
    cases ad with
    | none => exact ⟨.slice none 0 0, run_appendOp ho (run_append_room (ty := o.type) (w := w) ht ht2 hel rfl hs' hx1 hx2 (by simp)), by rw [← hs']; exact hE.ev s⟩
    | some ad => exact ⟨.slice (some ad) 0 0, run_appendOp ho (run_append_room (ty := o.type) (w := w) ht ht2 hel rfl hs' hx1 hx2 (by simp)), by rw [← hs']; exact hE.ev s⟩
end Go.Ab
end
section
set_option linter.unusedSimpArgs false
set_option linter.unusedVariables false
namespace Go.Ab
variable {P : Program} {o : Oper} {e : Env} {H : Heap}

/-! ### Conversions -/
theorem exec_convIntStr {s d : TypeId} {x : Operand} {q : IntKind} {i : Int} (ho : o.op = .convert s d x) (hx : e.ev x = .int q i) (hs : (P.ti s).d ≠ .bad) (hd : (P.ti d).d = .string) : Exec P o e H (.str (Utf8.encode i).data.toList) H :=
  .of_run fun N G a w hR hE => by
    have h := hE.ev x
    rw [hx] at h
    simp only [V] at h
    obtain ⟨u, hu, hud⟩ := ti_under hs
    refine ⟨.string (Utf8.encode i), ?_, by simp only [V]; exact congrArg Value.string (by simp [ba])⟩
    simp only [execOp, ho, h]
    refine run_value P _ w w _ ?_
    simp only [convert, bindRun, run_underlying hu, run_underlying (under_string hd)]
    cases u <;> rfl
/-- A text's runes. -/
def runesA (b : List UInt8) : List AV := ((Conv.runesFrom (ba b) (ba b).size 0 #[]).toList).map (ofVal 1)
theorem runesFrom_ints (s : ByteArray) : ∀ (n i : Nat) (acc : Array Value), (∀ v ∈ acc.toList, ∃ m, v = .int .i32 m) → ∀ v ∈ (Conv.runesFrom s n i acc).toList, ∃ m, v = .int .i32 m := by
  intro n
  induction n with
  | zero => intro i acc h; exact h
  | succ n ih =>
    intro i acc h
    rw [Conv.runesFrom]
    split
    · refine ih _ _ fun v hv => ?_
      simp at hv
      rcases hv with hv | rfl
      · exact h v (by simpa using hv)
      · exact ⟨_, rfl⟩
    · exact h
theorem Vrow_vals {n : Nat} {G : Ghost} {l : List Value} (h : ∀ v ∈ l, (ofVal 1 v).nc = 1) (c : Array Value) (hc : ∀ i, i < l.length → c[i]? = l[i]?) : Vrow n G 1 (l.map (ofVal 1)) c 0 := Vrow_of fun i x hx => by
  rw [List.getElem?_map, Option.map_eq_some_iff] at hx
  obtain ⟨v, hv, rfl⟩ := hx
  have hi : i < l.length := (List.getElem?_eq_some_iff.1 hv).1
  have hm := h v (List.mem_of_getElem? hv)
  refine ⟨hm, ?_⟩
  have hV := V_ofVal n G 1 v
  cases ho : ofVal 1 v <;> rw [ho] at hm hV <;> simp only [AV.nc] at hm <;> try (simp only [AV.cells, Vcells, and_true]; exact ⟨v, by rw [← hv, ← hc i hi]; congr 1; omega, hV⟩)
  unfold ofVal at ho
  split at ho <;> simp only [reduceCtorEq] at ho
  rename_i cs
  cases ho
  simp only [AV.cells]
  match hcs : cs.toList, hm with
  | [z], _ => simp only [List.map_cons, List.map_nil, ofVal, Vcells, V, and_true]; exact ⟨_, (by rw [← hv, ← hc i hi]; congr 1; omega)⟩
  | [], hm => simp [hcs] at hm
  | _ :: _ :: _, hm => simp [hcs] at hm
theorem exec_strRunes {s d el : TypeId} {x : Operand} {b : List UInt8} (ho : o.op = .convert s d x) (hx : e.ev x = .str b) (hs : (P.ti s).d = .string) (hd : (P.ti d).d = .slice el) (hel : (P.ti el).d = .int .i32) :
    Exec P o e H (.view H.length 1 0 (runesA b).length) (H ++ [.row el 1 1 (runesA b)]) := by
  intro N G a w hR hE
  have h := hE.ev x
  rw [hx] at h
  simp only [V] at h
  let elems := Conv.runesFrom (ba b) (ba b).size 0 #[]
  have hint : ∀ v ∈ elems.toList, ∃ m, v = .int .i32 m := runesFrom_ints _ _ _ _ (by simp)
  let q : Question := .appendCap elems.size 0 el
  let cap := q.cut (w.tape w.drawn q)
  have hcap : elems.size ≤ cap := by simp [cap, q, Question.cut]
  let arr : Array Value := elems ++ Array.replicate (cap - elems.size) (.int .i32 0)
  have hlen : (runesA b).length = elems.size := by simp [runesA, elems]
  have hrun : (convert s d (a.eval x)).run P w = .ok (.slice (some ⟨w.heap.size, 0, none⟩) elems.size cap) { w with heap := w.heap.push (.cells arr el), drawn := w.drawn + 1 } := by
    rw [h]
    simp only [convert, bindRun, run_underlying (under_string hs), run_underlying (under_slice hd), run_underlying (under_int hel), Conv.stringToRunes, choose, Sem.run, Question.forced, newRow, newObj, pureRun, Bool.false_eq_true, if_false]
    rfl
  have har : Vrow H.length G 1 (runesA b) arr 0 := Vrow_vals (fun v hv => by obtain ⟨m, rfl⟩ := hint v hv; rfl) arr fun i hi => by
    rw [Array.getElem?_append_left (by simpa using hi), Array.getElem?_toList]
  refine ⟨_, .slice (some ⟨w.heap.size, 0, none⟩) elems.size cap, _, _, ?_, .inl rfl, ?_, hR.newRow (cap := cap) (by simp [arr]; omega) (by omega) har { w with heap := w.heap.push (.cells arr el), drawn := w.drawn + 1 } rfl ⟨rfl, rfl, rfl⟩⟩
  · simp only [execOp, ho]
    exact run_value P _ w _ _ hrun
  · rw [hlen]
    have := V_moved (n := H.length) (b := w.heap.size) (sz := 1) (G := G) rfl hcap
    simpa using this
/-- Runes' text. -/
def encA : List AV → Option (List UInt8)
  | [] => some []
  | .int .i32 n :: r => match encA r with | some l => some ((Utf8.encode n).data.toList ++ l) | none => none
  | _ => none
def bytA : List AV → Option (List UInt8)
  | [] => some []
  | .int .u8 n :: r => match bytA r with | some l => some (UInt8.ofNat n.toNat :: l) | none => none
  | _ => none
theorem ba_eq (b : ByteArray) : ba b.data.toList = b := by simp [ba]
def encBody (c : Value) (s : ByteArray) : Sem (ForInStep ByteArray) := match c with | .int .i32 n => pure (ForInStep.yield (s ++ Utf8.encode n)) | _ => stuck "runesToString: rune expected"
def bytBody (c : Value) (s : ByteArray) : Sem (ForInStep ByteArray) := match c with | .int .u8 n => pure (ForInStep.yield (s.push (UInt8.ofNat n.toNat))) | _ => stuck "bytesToString: byte expected"
theorem encFold : ∀ (ys : List AV) (l : List Value) (b : List UInt8) (acc : ByteArray) (w : World) (n : Nat) (G : Ghost), encA ys = some b → l.length = ys.length → (∀ (i : Nat) (x : AV), ys[i]? = some x → ∃ v, l[i]? = some v ∧ V n G x v) →
    (forIn l acc encBody).run P w = .ok (acc ++ ba b) w := by
  intro ys
  induction ys with
  | nil =>
    intro l b acc w n G h hl _
    cases h
    have : l = [] := List.eq_nil_of_length_eq_zero hl
    subst this
    show Result.ok acc w = _
    congr 1
    apply ByteArray.ext
    simp [ba]
  | cons y ys ih =>
    intro l b acc w n G h hl hv
    cases l with
    | nil => simp at hl
    | cons c l =>
      unfold encA at h
      split at h
      · rename_i e; cases e
      · rename_i i r e
        cases e
        split at h
        · rename_i b' hb
          cases h
          obtain ⟨v, h1, h2⟩ := hv 0 _ rfl
          simp at h1
          subst h1
          simp only [V] at h2
          subst h2
          rw [List.forIn_cons, bindRun]
          simp only [encBody, bytBody, pureRun]
          rw [ih l b' _ w n G hb (by simpa using hl) (fun i x hx => by simpa using hv (i + 1) x (by simpa using hx))]
          congr 1
          apply ByteArray.ext
          simp only [ba, ByteArray.data_append, Array.append_assoc]
          congr 1
          apply Array.ext'
          simp
        · cases h
      · cases h
theorem bytFold : ∀ (ys : List AV) (l : List Value) (b : List UInt8) (acc : ByteArray) (w : World) (n : Nat) (G : Ghost), bytA ys = some b → l.length = ys.length → (∀ (i : Nat) (x : AV), ys[i]? = some x → ∃ v, l[i]? = some v ∧ V n G x v) →
    (forIn l acc bytBody).run P w = .ok (acc ++ ba b) w := by
  intro ys
  induction ys with
  | nil =>
    intro l b acc w n G h hl _
    cases h
    have : l = [] := List.eq_nil_of_length_eq_zero hl
    subst this
    show Result.ok acc w = _
    congr 1
    apply ByteArray.ext
    simp [ba]
  | cons y ys ih =>
    intro l b acc w n G h hl hv
    cases l with
    | nil => simp at hl
    | cons c l =>
      unfold bytA at h
      split at h
      · rename_i e; cases e
      · rename_i i r e
        cases e
        split at h
        · rename_i b' hb
          cases h
          obtain ⟨v, h1, h2⟩ := hv 0 _ rfl
          simp at h1
          subst h1
          simp only [V] at h2
          subst h2
          rw [List.forIn_cons, bindRun]
          simp only [encBody, bytBody, pureRun]
          rw [ih l b' _ w n G hb (by simpa using hl) (fun i x hx => by simpa using hv (i + 1) x (by simpa using hx))]
          congr 1
          apply ByteArray.ext
          simp [ba]
        · cases h
      · cases h
/-- What a slice's cells are, when they are loaded. -/
theorem run_loadElems {G : Ghost} {w : World} (hR : Rel G H w) {x : AV} {v : Value} (hv : V H.length G x v) {ys : List AV} (hx : elemsOf H x = some ys) (hns : ∀ s, x ≠ .str s) (hn : ∀ y ∈ ys, y.nc = 1) (hone : ∀ y ∈ ys, y.cells = [y]) :
    (∃ l c, v = .slice none l c ∧ ys = []) ∨ ∃ ad c arr, v = .slice (some ad) ys.length c ∧ (loadCells ad ys.length).run P w = .ok arr w ∧ arr.size = ys.length ∧ ∀ (i : Nat) (x : AV), ys[i]? = some x → ∃ u, arr[i]? = some u ∧ V H.length G x u := by
  obtain ⟨h1, arr, h2, h3, h4⟩ := run_firstCells (P := P) (size := 1) hR hv hx hn
  have hcell : ∀ (i : Nat) (x : AV), ys[i]? = some x → ∃ u, arr[i]? = some u ∧ V H.length G x u := by
    intro i x hi
    have := (Vrow_get h4 hi).2
    rw [hone x (List.mem_of_getElem? hi)] at this
    simp only [Vcells, and_true] at this
    obtain ⟨u, hu, k⟩ := this
    exact ⟨u, by rw [← hu]; congr 1; omega, k⟩
  cases x <;> simp only [elemsOf, reduceCtorEq] at hx
  · exact absurd rfl (hns _)
  · cases hx; simp only [V] at hv; exact .inl ⟨_, _, hv, rfl⟩
  · cases hx; simp only [V] at hv; obtain ⟨ad, rfl⟩ := hv
    exact .inr ⟨ad, 0, #[], rfl, rfl, rfl, by simp⟩
  · simp only [V] at hv
    cases hx
    rcases hv with ⟨rfl, hv⟩ | ⟨b, q, cap, c, t, fr, size, hv, _⟩
    · exact .inl ⟨_, _, hv, rfl⟩
    · subst hv
      right
      refine ⟨_, cap, arr, rfl, ?_, by omega, hcell⟩
      simpa [Builtin.firstCells] using h2
  · rename_i id g off len
    simp only [V] at hv
    obtain ⟨_, _, ad, cap, hv, hlc, _⟩ := hv
    have hlen : ys.length = len := by
      split at hx
      · rename_i h0; cases hx; exact h0.symm
      · split at hx
        · split at hx
          · rename_i hc; cases hx; rw [List.length_take, List.length_drop]; omega
          · cases hx
        · cases hx
    subst hv
    cases ad with
    | none =>
      left
      refine ⟨_, _, rfl, ?_⟩
      have : (Builtin.firstCells 1 ys.length (.slice none len cap)).run P w = .ok #[] w := rfl
      rw [this] at h2
      cases h2
      exact List.eq_nil_of_length_eq_zero (by simpa using h3.symm)
    | some ad =>
      right
      refine ⟨ad, cap, arr, by rw [hlen], ?_, by omega, hcell⟩
      simpa [Builtin.firstCells] using h2
theorem encA_ints : ∀ (ys : List AV) (b : List UInt8), encA ys = some b → ∀ y ∈ ys, ∃ n, y = .int .i32 n := by
  intro ys
  induction ys with
  | nil => intro b _ y hy; cases hy
  | cons z ys ih =>
    intro b h y hy
    unfold encA at h
    split at h
    · rename_i e; cases e
    · rename_i n r e
      cases e
      split at h
      · rename_i b' hb
        rcases List.mem_cons.1 hy with rfl | hy
        · exact ⟨_, rfl⟩
        · exact ih _ hb y hy
      · cases h
    · cases h
theorem bytA_ints : ∀ (ys : List AV) (b : List UInt8), bytA ys = some b → ∀ y ∈ ys, ∃ n, y = .int .u8 n := by
  intro ys
  induction ys with
  | nil => intro b _ y hy; cases hy
  | cons z ys ih =>
    intro b h y hy
    unfold bytA at h
    split at h
    · rename_i e; cases e
    · rename_i n r e
      cases e
      split at h
      · rename_i b' hb
        rcases List.mem_cons.1 hy with rfl | hy
        · exact ⟨_, rfl⟩
        · exact ih _ hb y hy
      · cases h
    · cases h
theorem exec_runesStr {s d el : TypeId} {x : Operand} {ys : List AV} {b : List UInt8} (ho : o.op = .convert s d x) (hys : elemsOf H (e.ev x) = some ys) (hns : ∀ s, e.ev x ≠ .str s) (hb : encA ys = some b) (hs : (P.ti s).d = .slice el) (hd : (P.ti d).d = .string) (hel : (P.ti el).d = .int .i32) : Exec P o e H (.str b) H :=
  .of_run fun N G a w hR hE => by
    have hv := hE.ev x
    have hint := encA_ints _ _ hb
    refine ⟨.string (ba b), ?_, by simp only [V]⟩
    simp only [execOp, ho]
    refine run_value P _ w w _ ?_
    rcases run_loadElems (P := P) hR hv hys hns (fun y hy => by obtain ⟨n, rfl⟩ := hint y hy; rfl) (fun y hy => by obtain ⟨n, rfl⟩ := hint y hy; rfl) with ⟨l, c, h1, rfl⟩ | ⟨ad, c, arr, h1, h2, h3, h4⟩
    · cases hb
      rw [h1]
      simp only [convert, bindRun, run_underlying (under_slice hs), run_underlying (under_string hd), run_underlying (under_int hel), Conv.runesToString]
      rfl
    · rw [h1]
      have := encFold (P := P) ys arr.toList b .empty w _ G hb (by simp [h3]) (fun i x hx => by simpa using h4 i x hx)
      simp only [convert, bindRun, run_underlying (under_slice hs), run_underlying (under_string hd), run_underlying (under_int hel), Conv.runesToString, h2]
      rw [← Array.forIn_toList]
      have key : ∀ r : Result ByteArray, r = (forIn arr.toList ByteArray.empty encBody).run P w → ∀ a1 w1, r = .ok a1 w1 → a1 = ba b ∧ w1 = w := by
        rintro r rfl a1 w1 h
        rw [this] at h
        cases h
        simp
      split
      · rename_i a1 w1 hx1
        obtain ⟨rfl, rfl⟩ := key _ (by congr 1) _ _ hx1
        rfl
      · rename_i a1 w1 hx1
        exfalso
        have h6 := hx1.symm.trans (Eq.trans (by congr 1) this)
        cases h6
theorem exec_bytesStr {s d el : TypeId} {x : Operand} {ys : List AV} {b : List UInt8} (ho : o.op = .convert s d x) (hys : elemsOf H (e.ev x) = some ys) (hns : ∀ s, e.ev x ≠ .str s) (hb : bytA ys = some b) (hs : (P.ti s).d = .slice el) (hd : (P.ti d).d = .string) (hel : (P.ti el).d = .int .u8) : Exec P o e H (.str b) H :=
  .of_run fun N G a w hR hE => by
    have hv := hE.ev x
    have hint := bytA_ints _ _ hb
    refine ⟨.string (ba b), ?_, by simp only [V]⟩
    simp only [execOp, ho]
    refine run_value P _ w w _ ?_
    rcases run_loadElems (P := P) hR hv hys hns (fun y hy => by obtain ⟨n, rfl⟩ := hint y hy; rfl) (fun y hy => by obtain ⟨n, rfl⟩ := hint y hy; rfl) with ⟨l, c, h1, rfl⟩ | ⟨ad, c, arr, h1, h2, h3, h4⟩
    · cases hb
      rw [h1]
      simp only [convert, bindRun, run_underlying (under_slice hs), run_underlying (under_string hd), run_underlying (under_int hel), Conv.bytesToString]
      rfl
    · rw [h1]
      have := bytFold (P := P) ys arr.toList b .empty w _ G hb (by simp [h3]) (fun i x hx => by simpa using h4 i x hx)
      simp only [convert, bindRun, run_underlying (under_slice hs), run_underlying (under_string hd), run_underlying (under_int hel), Conv.bytesToString, h2]
      rw [← Array.forIn_toList]
      have key : ∀ r : Result ByteArray, r = (forIn arr.toList ByteArray.empty bytBody).run P w → ∀ a1 w1, r = .ok a1 w1 → a1 = ba b ∧ w1 = w := by
        rintro r rfl a1 w1 h
        rw [this] at h
        cases h
        simp
      split
      · rename_i a1 w1 hx1
        obtain ⟨rfl, rfl⟩ := key _ (by congr 1) _ _ hx1
        rfl
      · rename_i a1 w1 hx1
        exfalso
        have h6 := hx1.symm.trans (Eq.trans (by congr 1) this)
        cases h6
/-! ### min, max, cap, len -/
theorem run_builtin {b : Builtin} {xs : Array Operand} {ts : Array TypeId} {a : Act} {w w' : World} {v : Value} (f : Array TypeId → TypeId → Array Value → Sem Value) (ho : o.op = .call { callee := .builtin b, args := xs, argTypes := ts })
    (hb : ∀ c args, builtin b ts o.type c args = (do pure (.value (← f ts o.type args)))) (h : (f ts o.type (xs.map a.eval)).run P w = .ok v w') : (execOp a.eval o).run P w = .ok (.value v) w' := by
  simp only [execOp, ho, resolve, bindRun, pureRun, invoke, hb, h]
theorem exec_minmax {mx : Bool} {x y : Operand} {ts : Array TypeId} {k : IntKind} {i j : Int} (ho : o.op = .call { callee := .builtin (if mx then .max else .min), args := #[x, y], argTypes := ts }) (hx : e.ev x = .int k i) (hy : e.ev y = .int k j) :
    Exec P o e H (.int k (if mx then (if j > i then j else i) else (if j < i then j else i))) H :=
  .of_run fun N G a w hR hE => by
    have h1 := hE.ev x
    have h2 := hE.ev y
    rw [hx] at h1
    rw [hy] at h2
    simp only [V] at h1 h2
    refine ⟨_, ?_, by simp only [V]; rfl⟩
    cases mx with
    | true => exact run_builtin Builtin.max_ ho (fun _ _ => rfl) (by simp only [List.map_toArray, List.map_cons, List.map_nil, h1, h2]; rfl)
    | false => exact run_builtin Builtin.min_ ho (fun _ _ => rfl) (by simp only [List.map_toArray, List.map_cons, List.map_nil, h1, h2]; rfl)
theorem exec_capNil {x : Operand} {t el : TypeId} (ho : o.op = .call { callee := .builtin .cap, args := #[x], argTypes := #[t] }) (hx : e.ev x = .nilS) (ht : (P.ti t).d = .slice el) : Exec P o e H (.int .i64 0) H :=
  .of_run fun N G a w hR hE => by
    have h1 := hE.ev x
    rw [hx] at h1
    simp only [V] at h1
    refine ⟨_, run_builtin Builtin.cap_ ho (fun _ _ => rfl) (v := .int .i64 0) ?_, by simp only [V]⟩
    simp only [List.map_toArray, List.map_cons, List.map_nil, h1, Builtin.cap_, List.getElem?_toArray, List.getElem?_cons_zero, bindRun, run_underlying (under_slice ht)]
    rfl
theorem exec_lenMap {x : Operand} {t kT eT : TypeId} {id : Nat} {kt : KT} {es : List (Key × AV)} (ho : o.op = .call { callee := .builtin .len, args := #[x], argTypes := #[t] }) (hx : e.ev x = .map id) (hH : H[id]? = some (.map kt es)) (ht : (P.ti t).d = .map kT eT) : Exec P o e H (.int .i64 es.length) H :=
  .of_run fun N G a w hR hE => by
    have h1 := hE.ev x
    rw [hx] at h1
    simp only [V] at h1
    obtain ⟨ms, hw, hm⟩ := hR.mapAt hH
    have hgo : (getObj (G.loc id).block).run P w = .ok (.map ms ms.size) w := by simp only [getObj, Sem.run, hw]
    refine ⟨_, run_builtin Builtin.len_ ho (fun _ _ => rfl) (v := .int .i64 es.length) ?_, by simp only [V]⟩
    simp only [List.map_toArray, List.map_cons, List.map_nil, h1.2.2, Builtin.len_, List.getElem?_toArray, List.getElem?_cons_zero, bindRun, run_underlying (under_map ht), hgo, hm.size]
    rfl
theorem exec_lenNilM {x : Operand} {t kT eT : TypeId} (ho : o.op = .call { callee := .builtin .len, args := #[x], argTypes := #[t] }) (hx : e.ev x = .nilM) (ht : (P.ti t).d = .map kT eT) : Exec P o e H (.int .i64 0) H :=
  .of_run fun N G a w hR hE => by
    have h1 := hE.ev x
    rw [hx] at h1
    simp only [V] at h1
    refine ⟨_, run_builtin Builtin.len_ ho (fun _ _ => rfl) (v := .int .i64 0) ?_, by simp only [V]⟩
    simp only [List.map_toArray, List.map_cons, List.map_nil, h1, Builtin.len_, List.getElem?_toArray, List.getElem?_cons_zero, bindRun, run_underlying (under_map ht)]
    rfl
/-! ### Iterators -/
theorem exec_rangeStr {t : TypeId} {x : Operand} {s : List UInt8} (ho : o.op = .range t x) (hx : e.ev x = .str s) (ht : (P.ti t).d = .string) : Exec P o e H (.iter H.length) (H ++ [.siter s 0]) := by
  intro N G a w hR hE
  have h := hE.ev x
  rw [hx] at h
  simp only [V] at h
  refine ⟨_, .pointer (some ⟨w.heap.size, 0, none⟩), _, _, ?_, .inl rfl, ?_, hR.push (w' := { w with heap := w.heap.push (Obj.stringIter (ba s) 0) }) (.siter s 0) (Loc.var w.heap.size) (fun _ => ⟨rfl, by simp⟩) (by simp) (fun b hb => heap_push _ _ hb) ⟨rfl, rfl, rfl⟩ ⟨rfl, by simp [Loc.var]⟩⟩
  · simp only [execOp, ho]
    refine run_value P _ w _ _ ?_
    simp only [Instr.range, bindRun, run_underlying (under_string ht), h, pureRun, newObj, Sem.run]
  · simp only [V, List.length_append, List.length_cons, List.length_nil, Nat.zero_add]
    exact ⟨by omega, by simp [Loc.var], by simp [Loc.var]⟩
theorem exec_rangeMap {t kT eT : TypeId} {x : Operand} {id : Nat} {kt : KT} {es : List (Key × AV)} (ho : o.op = .range t x) (hx : e.ev x = .map id) (hH : H[id]? = some (.map kt es)) (ht : (P.ti t).d = .map kT eT) :
    Exec P o e H (.iter H.length) (H ++ [.iter id (es.map (·.1)) (es.map (·.1)) none]) := by
  intro N G a w hR hE
  have h := hE.ev x
  rw [hx] at h
  simp only [V] at h
  obtain ⟨hid, hfx, hv⟩ := h
  obtain ⟨ms, hw, hm⟩ := hR.mapAt hH
  have hgo : (getObj (G.loc id).block).run P w = .ok (.map ms ms.size) w := by simp only [getObj, Sem.run, hw]
  have hlen : ms.size = (es.map (·.1)).length := by rw [hm.size, List.length_map]
  refine ⟨_, .pointer (some ⟨w.heap.size, 0, none⟩), _, _, ?_, .inl rfl, ?_, hR.push (w' := { w with heap := w.heap.push (Obj.mapIter (some (G.loc id).block) ms.size #[] ms.size) }) (.iter id (es.map (·.1)) (es.map (·.1)) none) (Loc.var w.heap.size) (fun _ => ⟨rfl, by simp⟩) (by simp) (fun b hb => heap_push _ _ hb) ⟨rfl, rfl, rfl⟩ ?_⟩
  · simp only [execOp, ho]
    refine run_value P _ w _ _ ?_
    simp only [Instr.range, bindRun, run_underlying (under_map ht), hv, hgo, pureRun, newObj, Sem.run]
  · simp only [V, List.length_append, List.length_cons, List.length_nil, Nat.zero_add]
    exact ⟨by omega, by simp [Loc.var], by simp [Loc.var]⟩
  · refine ⟨rfl, by omega, ?_, #[], ?_, hm.nodup, hm.nodup, fun _ h => h, fun k hk => ?_, fun k hk => by cases hk⟩
    · rw [Ghost.put_other _ _ (by omega)]; exact hfx
    · rw [Ghost.put_other _ _ (by omega), ← hlen]; simp [Loc.var]
    · obtain ⟨x, hx, rfl⟩ := List.mem_map.1 hk
      obtain ⟨i, m, h1, h2, _⟩ := hm.entry x hx
      refine ⟨i, h1, by rw [← hlen]; exact (Array.getElem?_eq_some_iff.1 h2).1, ?_⟩
      exact ⟨fun h => by simp at h, fun h => absurd hk h⟩
theorem exec_nextStr {x : Operand} {id : Nat} {s : List UInt8} {pos : Nat} (ho : o.op = .next x true) (hx : e.ev x = .iter id) (hH : H[id]? = some (.siter s pos)) (hp : pos < s.length) :
    Exec P o e H (.tup [.bool true, .int .i64 pos, .int .i32 (Utf8.decode (ba s) pos).1]) (H.set id (.siter s (pos + (Utf8.decode (ba s) pos).2))) := by
  intro N G a w hR hE
  have h := hE.ev x
  rw [hx] at h
  simp only [V] at h
  obtain ⟨hid, hfx, hv⟩ := h
  obtain ⟨_, hw⟩ := hR.obj id _ hH
  have hgo : (getObj (G.loc id).block).run P w = .ok (.stringIter (ba s) pos) w := by simp only [getObj, Sem.run, hw]
  have hset : ∀ x : Obj, (setObj (G.loc id).block x).run P w = .ok () { w with heap := w.heap.setIfInBounds (G.loc id).block x } := by intro x; simp only [setObj, Sem.run, hw]
  have hlt : (G.loc id).block < w.heap.size := by rw [Array.getElem?_eq_some_iff] at hw; exact hw.1
  have hRp := hR.put (w' := { w with heap := w.heap.setIfInBounds (G.loc id).block (.stringIter (ba s) (pos + (Utf8.decode (ba s) pos).2)) }) id _ (.siter s (pos + (Utf8.decode (ba s) pos).2)) (G.loc id) hH (by rw [Ghost.put_self]; exact Ext.refl _ _) (by simp) (fun _ => .inl ⟨rfl, rfl⟩)
    (fun b _ hne => by simp only [Array.getElem?_setIfInBounds]; rw [if_neg (fun e => hne rfl e.symm)]) ⟨rfl, rfl, rfl⟩ (by rw [Ghost.put_self]; exact ⟨hfx, by simp [hlt]⟩)
  rw [Ghost.put_self] at hRp
  refine ⟨_, .tuple #[.bool true, .int .i64 pos, .int .i32 (Utf8.decode (ba s) pos).1], _, _, ?_, .inl rfl, ?_, hRp⟩
  · simp only [execOp, ho]
    refine run_value P _ w _ _ ?_
    simp only [Instr.next, bindRun, hv, hgo, ba_size, if_pos hp, hset, pureRun, goInt]
  · simp only [V]
    refine ⟨_, rfl, rfl, ?_⟩
    simp only [Vcells, V, and_true]
    exact ⟨⟨_, rfl, rfl⟩, ⟨_, rfl, rfl⟩, _, rfl, rfl⟩
theorem exec_nextStrEnd {x : Operand} {id : Nat} {s : List UInt8} {pos : Nat} (ho : o.op = .next x true) (hx : e.ev x = .iter id) (hH : H[id]? = some (.siter s pos)) (hp : ¬ pos < s.length) : Exec P o e H (.tup [.bool false]) H :=
  .of_run fun N G a w hR hE => by
    have h := hE.ev x
    rw [hx] at h
    simp only [V] at h
    obtain ⟨hid, hfx, hv⟩ := h
    obtain ⟨_, hw⟩ := hR.obj id _ hH
    have hgo : (getObj (G.loc id).block).run P w = .ok (.stringIter (ba s) pos) w := by simp only [getObj, Sem.run, hw]
    refine ⟨.tuple #[.bool false], ?_, ?_⟩
    · simp only [execOp, ho]
      refine run_value P _ w _ _ ?_
      simp only [Instr.next, bindRun, hv, hgo, ba_size, if_neg hp, pureRun]
    · simp only [V]
      refine ⟨_, rfl, rfl, ?_⟩
      simp only [Vcells, V, and_true]
      exact ⟨_, rfl, rfl⟩
theorem exec_entry {x : Operand} {id m : Nat} {keys left : List Key} {k : Key} {kt : KT} {es : List (Key × AV)} {v : AV} (ho : o.op = .entry x) (hx : e.ev x = .iter id) (hH : H[id]? = some (.iter m keys left (some k))) (hM : H[m]? = some (.map kt es)) (hl : es.length = keys.length) (hv : mget es k = some v) :
    Exec P o e H (.tup [k.av kt, v]) H :=
  .of_run fun N G a w hR hE => by
    have h := hE.ev x
    rw [hx] at h
    simp only [V] at h
    obtain ⟨hid, hfx, hv'⟩ := h
    obtain ⟨_, hm, hmf, seen, hw, h1, h2, h3, h8, h9⟩ := hR.obj id _ hH
    obtain ⟨hk, i, hb, hback⟩ := h9 k rfl
    obtain ⟨ms, hwm, hms⟩ := hR.mapAt hM
    have hgo : (getObj (G.loc id).block).run P w = .ok (.mapIter (some (G.loc m).block) keys.length seen keys.length) w := by simp only [getObj, Sem.run, hw]
    have hgm : (getObj (G.loc m).block).run P w = .ok (.map ms ms.size) w := by simp only [getObj, Sem.run, hwm]
    obtain ⟨j, mm, a1, a2, a3, a4⟩ := hms.entry (k, v) (mget_mem hv)
    rw [hb] at a1
    cases a1
    have hfind : ms.find? (fun e => e.born == i) = some mm := by
      rw [← Array.find?_toList]
      have : ∀ (l : List MapEntry) (q : Nat), (∀ (j : Nat) (m : MapEntry), l[j]? = some m → m.born = q + j) → ∀ j m, l[j]? = some m → l.find? (fun e => e.born == q + j) = some m := by
        intro l
        induction l with
        | nil => intro q _ j m h; simp at h
        | cons x l ih =>
          intro q hq j m hj
          cases j with
          | zero => simp at hj; subst hj; simp [hq 0 x rfl]
          | succ j =>
            have hx0 := hq 0 x rfl
            rw [List.find?_cons_of_neg (by simp [hx0]), show q + (j + 1) = (q + 1) + j by omega]
            exact ih (q + 1) (fun j' m' h' => by have := hq (j' + 1) m' (by simpa using h'); omega) j m (by simpa using hj)
      have := this ms.toList 0 (fun j m hj => by have := hms.born j m (by simpa using hj); omega) i mm (by simpa using a2)
      simpa using this
    refine ⟨.tuple #[mm.key, mm.val], ?_, ?_⟩
    · simp only [execOp, ho]
      refine run_value P _ w _ _ ?_
      have hsz : (ms.size != keys.length) = false := by simp [hms.size, hl]
      simp only [Instr.entry, bindRun, hv', hgo, hback, hgm, hsz, Bool.false_eq_true, if_false, hfind, pureRun]
    · have hkv : V H.length G (k.av kt) mm.key := by
        rw [a3]
        have hf := hms.fits _ (mget_mem hv)
        cases kt <;> cases k <;> simp only [Key.fits, Bool.false_eq_true, beq_iff_eq] at hf <;> simp only [Key.av, Key.val, V]
        rename_i ks l
        refine ⟨_, rfl, by simp, Vcells_of fun i x hx => ?_⟩
        rw [List.getElem?_map, Option.map_eq_some_iff] at hx
        obtain ⟨y, hy, rfl⟩ := hx
        exact ⟨.int y.1 y.2, by simp [List.getElem?_map, hy], by simp only [V]⟩
      exact V_pair hkv a4
end Go.Ab
end
section
set_option linter.unusedSimpArgs false
set_option linter.unusedVariables false
namespace Go.Ab
variable {P : Program} {o : Oper} {e : Env} {H : Heap}

def spliceL (xs : List AV) (off : Nat) (ys : List AV) : List AV := xs.take off ++ ys ++ xs.drop (off + ys.length)
theorem spliceL_get {xs ys : List AV} {off : Nat} (h : off + ys.length ≤ xs.length) (i : Nat) : (spliceL xs off ys)[i]? = if off ≤ i ∧ i < off + ys.length then ys[i - off]? else xs[i]? := putCells_get h i
theorem spliceL_length {xs ys : List AV} {off : Nat} (h : off + ys.length ≤ xs.length) : (spliceL xs off ys).length = xs.length := putCells_length h
/-- Elements stored into a row of one's own. -/
theorem Rel.splice {G : Ghost} {w : World} (hR : Rel G H w) {id g sz off : Nat} {ty : TypeId} {xs ys : List AV} {arr : Array Value} (hH : H[id]? = some (.row ty g sz xs)) (hnil : (G.loc id).isNil = false) (hfit : off + ys.length ≤ xs.length)
    (ha : Vrow H.length G sz ys arr 0) (hs : arr.size = ys.length * sz) (hone : ∀ z ∈ ys, z.solid = true) :
    ∃ w', (storeCells ⟨(G.loc id).block, (G.loc id).base + off * (G.loc id).size, none⟩ arr.toList).run P w = .ok () w' ∧ Rel G (H.set id (.row ty g sz (spliceL xs off ys))) w' ∧ Step H.length (H.set id (AObj.row ty g sz (spliceL xs off ys))).length G w G w' := by
  obtain ⟨hg', hfx, hsz', hrow⟩ := hR.obj id _ hH
  rcases hrow with ⟨h2, _⟩ | ⟨_, c, hw, hcs, hroom, hr⟩
  · rw [h2] at hnil; cases hnil
  have hvone := Vrow_isOne ha hs hone
  have hb1 : (off + ys.length) * sz ≤ xs.length * sz := Nat.mul_le_mul_right _ hfit
  rw [Nat.add_mul] at hb1
  rw [hsz'] at hroom hr ⊢
  obtain ⟨w', k1, k2, k3, k4, k5, k6, k7⟩ := run_storeCells (P := P) (t := ty) ((G.loc id).base + off * sz) arr.toList 0 w c hw (by simp; omega) hvone
  have hwr := wr_get c ((G.loc id).base + off * sz) arr.toList (by simp; omega)
  have hRp := hR.put (w' := w') id _ (.row ty g sz (spliceL xs off ys)) (G.loc id) hH (by rw [Ghost.put_self]; exact Ext.refl _ _) (by omega) (fun ho => .inl ⟨rfl, ho⟩) (fun b _ hne => k3 b (hne (by simp [owns, hnil]))) ⟨k5, k6, k7⟩
    (by
      rw [Ghost.put_self]
      refine ⟨hg', hfx, hsz', .inr ⟨hnil, _, k2, by rw [wr_size]; exact hcs, by rw [hsz', spliceL_length hfit]; exact hroom, ?_⟩⟩
      rw [hsz', Nat.add_zero]
      refine Vrow_of fun i z hz => ?_
      rw [spliceL_get hfit] at hz
      split at hz
      · rename_i hin
        obtain ⟨n1, n2⟩ := Vrow_get ha hz
        refine ⟨n1, Vcells_congr n2 fun j hj => ?_⟩
        rw [← AV.nc_eq, n1] at hj
        have e1 : i * sz = off * sz + (i - off) * sz := by rw [← Nat.add_mul]; congr 1; omega
        have e2 : (i - off + 1) * sz ≤ ys.length * sz := Nat.mul_le_mul_right _ (by omega)
        rw [Nat.succ_mul] at e2
        rw [hwr, if_pos (by simp; omega), Array.getElem?_toList]
        congr 1
        omega
      · rename_i hin
        obtain ⟨n1, n2⟩ := Vrow_get hr hz
        refine ⟨n1, Vcells_congr n2 fun j hj => ?_⟩
        rw [← AV.nc_eq, n1] at hj
        rw [hwr, if_neg]
        intro hc
        simp only [Array.length_toList, hs] at hc
        by_cases hio : i < off
        · have : (i + 1) * sz ≤ off * sz := Nat.mul_le_mul_right _ hio
          rw [Nat.succ_mul] at this
          omega
        · have : (off + ys.length) * sz ≤ i * sz := Nat.mul_le_mul_right _ (by omega)
          rw [Nat.add_mul] at this
          omega)
  rw [Ghost.put_self] at hRp
  exact ⟨w', k1, hRp⟩
theorem load_world {a : Addr} {w w' : World} {v : Value} (h : (load a).run P w = .ok v w') : w' = w := by
  simp only [load, Sem.run] at h
  split at h
  · cases h; rfl
  · split at h
    · cases h; rfl
    · cases h
theorem loadFrom_ext {a : Addr} : ∀ (n i : Nat) (acc r : Array Value) (w w' : World), (loadCellsFrom a i n acc).run P w = .ok r w' → w' = w ∧ r.size = acc.size + n ∧ ∀ j, j < acc.size → r[j]? = acc[j]? := by
  intro n
  induction n with
  | zero => intro i acc r w w' h; cases h; exact ⟨rfl, rfl, fun _ _ => rfl⟩
  | succ n ih =>
    intro i acc r w w' h
    rw [loadCellsFrom, bindRun] at h
    split at h
    · rename_i v w1 hl
      have := load_world hl
      subst this
      obtain ⟨h1, h2, h3⟩ := ih _ _ _ _ _ h
      refine ⟨h1, by rw [h2]; simp; omega, fun j hj => ?_⟩
      rw [h3 j (by simp; omega), Array.getElem?_push, if_neg (by omega)]
    · cases h
theorem loadFrom_prefix {a : Addr} : ∀ (n m i : Nat) (acc r : Array Value) (w w' : World), (loadCellsFrom a i (n + m) acc).run P w = .ok r w' → ∃ r1, (loadCellsFrom a i n acc).run P w = .ok r1 w ∧ r1.size = acc.size + n ∧ ∀ j, j < r1.size → r[j]? = r1[j]? := by
  intro n
  induction n with
  | zero =>
    intro m i acc r w w' h
    rw [Nat.zero_add] at h
    exact ⟨acc, rfl, rfl, fun j hj => (loadFrom_ext _ _ _ _ _ _ h).2.2 j hj⟩
  | succ n ih =>
    intro m i acc r w w' h
    rw [show n + 1 + m = (n + m) + 1 by omega, loadCellsFrom, bindRun] at h
    split at h
    · rename_i v w1 hl
      have := load_world hl
      subst this
      obtain ⟨r1, h1, h2, h3⟩ := ih _ _ _ _ _ _ h
      refine ⟨r1, ?_, by rw [h2]; simp; omega, h3⟩
      rw [loadCellsFrom, bindRun, hl]
      exact h1
    · cases h
theorem run_firstCells_take {G : Ghost} {w : World} (hR : Rel G H w) {x : AV} {v : Value} (hv : V H.length G x v) {ys : List AV} (hx : elemsOf H x = some ys) {size : Nat} (hn : ∀ y ∈ ys, y.nc = size) (k : Nat) (hk : k ≤ ys.length) :
    ∃ arr, (Builtin.firstCells size k v).run P w = .ok arr w ∧ arr.size = k * size ∧ Vrow H.length G size (ys.take k) arr 0 := by
  obtain ⟨_, arr, h2, h3, h4⟩ := run_firstCells (P := P) hR hv hx hn
  have fin : ∀ r1 : Array Value, r1.size = k * size → (∀ j, j < r1.size → arr[j]? = r1[j]?) → Vrow H.length G size (ys.take k) r1 0 := by
    intro r1 hs hj
    have hsplit : Vrow H.length G size (ys.take k ++ ys.drop k) arr 0 := by rw [List.take_append_drop]; exact h4
    rw [Vrow_append] at hsplit
    refine Vrow_congr hsplit.1 fun j hjl => ?_
    rw [List.length_take, Nat.min_eq_left hk] at hjl
    rw [Nat.zero_add, hj j (by omega)]
  have slice : ∀ ad l c, v = .slice ad l c → ∃ arr, (Builtin.firstCells size k v).run P w = .ok arr w ∧ arr.size = k * size ∧ Vrow H.length G size (ys.take k) arr 0 := by
    rintro ad l c rfl
    cases ad with
    | none =>
      have : (Builtin.firstCells size ys.length (.slice none l c)).run P w = .ok #[] w := rfl
      rw [this] at h2
      cases h2
      have hz : k * size = 0 := by
        have := Nat.mul_le_mul_right size hk
        simp at h3
        omega
      exact ⟨#[], rfl, by simp [hz], fin #[] (by simp [hz]) (by simp)⟩
    | some ad =>
      have hle : k * size ≤ ys.length * size := Nat.mul_le_mul_right _ hk
      simp only [Builtin.firstCells, loadCells] at h2 ⊢
      rw [show ys.length * size = k * size + (ys.length * size - k * size) by omega] at h2
      obtain ⟨r1, e1, e2, e3⟩ := loadFrom_prefix _ _ _ _ _ _ _ h2
      exact ⟨r1, e1, by simpa using e2, fin r1 (by simpa using e2) e3⟩
  cases x <;> simp only [elemsOf, reduceCtorEq] at hx
  · rename_i s
    cases hx
    simp only [V] at hv
    subst hv
    refine ⟨_, rfl, ?_, ?_⟩
    · by_cases hs : s = []
      · subst hs
        simp at hk
        subst hk
        simp [ba]
      · obtain ⟨b, r, rfl⟩ := List.exists_cons_of_ne_nil hs
        have hz : size = 1 := (hn _ (List.mem_map_of_mem List.mem_cons_self)).symm
        subst hz
        simp only [Array.size_map, ByteArray.size_data, ByteArray.size_extract, ba_size]
        simp only [List.length_map] at hk
        omega
    · refine Vrow_of fun i y hy => ?_
      have hi : i < k := by
        have := (List.getElem?_eq_some_iff.1 hy).1
        rw [List.length_take] at this
        omega
      rw [List.getElem?_take, if_pos hi, List.getElem?_map, Option.map_eq_some_iff] at hy
      obtain ⟨b, hb, rfl⟩ := hy
      have hz : size = 1 := (hn (.int .u8 b.toNat) (List.mem_map_of_mem (List.mem_of_getElem? hb))).symm
      subst hz
      refine ⟨rfl, ?_⟩
      simp only [AV.cells, Vcells, V, and_true, Nat.mul_one, Nat.zero_add]
      refine ⟨_, ?_, rfl⟩
      have hlt : i < s.length := (List.getElem?_eq_some_iff.1 hb).1
      simp only [List.length_map] at hk
      rw [Array.getElem?_map, ByteArray.data_extract, Array.getElem?_extract]
      rw [if_pos (by simp [ba]; omega)]
      simp [ba, hb]
  · simp only [V] at hv; exact slice _ _ _ hv
  · simp only [V] at hv; obtain ⟨ad, hv⟩ := hv; exact slice _ _ _ hv
  · simp only [V] at hv
    rcases hv with ⟨_, hv⟩ | ⟨b, q, cap, c, t, fr, sz, hv, _⟩
    · exact slice _ _ _ hv
    · exact slice _ _ _ hv
  · simp only [V] at hv; obtain ⟨_, _, ad, cap, hv, _⟩ := hv; exact slice _ _ _ hv
theorem exec_copy {x y : Operand} {t t2 el : TypeId} {id g sz off len : Nat} {ty : TypeId} {xs ys : List AV} (ho : o.op = .call { callee := .builtin .copy, args := #[x, y], argTypes := #[t, t2] })
    (hx : e.ev x = .view id g off len) (hy : elemsOf H (e.ev y) = some ys) (hH : H[id]? = some (.row ty g sz xs)) (hfit : off + len ≤ xs.length) (ht : (P.ti t).d = .slice el) (hel : (P.ti el).d ≠ .bad) (hsz : (P.ti el).size = sz)
    (hn : ∀ z ∈ ys, z.nc = sz) (hs : ∀ z ∈ ys, z.solid = true) : Exec P o e H (.int .i64 (Nat.min ys.length len)) (H.set id (.row ty g sz (spliceL xs off (ys.take (Nat.min ys.length len))))) := by
  intro N G a w hR hE
  have h1 := hE.ev x
  have h2 := hE.ev y
  rw [hx] at h1
  simp only [V] at h1
  obtain ⟨hid, hg, ad, cap, hv, hlen, hcur⟩ := h1
  have hg' := (hR.obj id _ hH).1
  obtain ⟨hl1, _⟩ := run_firstCells (P := P) hR h2 hy hn
  -- the cells of the first n elements
  have hmin : Nat.min ys.length len ≤ ys.length := Nat.min_le_left _ _
  have hmin2 : Nat.min ys.length len ≤ len := Nat.min_le_right _ _
  have htl : (ys.take (Nat.min ys.length len)).length = Nat.min ys.length len := by rw [List.length_take]; omega
  obtain ⟨arr, harr, has, har⟩ := run_firstCells_take (P := P) hR h2 hy hn (Nat.min ys.length len) hmin
  rcases hcur hg'.symm with ⟨hnil, rfl, rfl, rfl⟩ | ⟨hnil, had, hroom⟩
  · have h0 : (ys.take (Nat.min ys.length 0)) = [] := by simp
    have hx0 : xs.take off ++ [] ++ xs.drop (off + 0) = xs := by simp
    have hset : H.set id (.row ty g sz (spliceL xs off (ys.take (Nat.min ys.length 0)))) = H := by
      rw [h0]
      simp only [spliceL, List.length_nil, Nat.add_zero, List.append_nil, List.take_append_drop]
      refine List.ext_getElem? fun i => ?_
      rw [List.getElem?_set]
      split
      · rename_i e; subst e; first | rw [if_pos hid, hH] | rw [hH]
      · rfl
    rw [hset]
    have hm0 : Nat.min ys.length 0 = 0 := by simp
    rw [hm0] at harr ⊢
    refine ⟨_, .int .i64 0, w, G, ?_, .inl rfl, by simp only [V]; rfl, hR, Step.refl _ _ _⟩
    refine run_builtin Builtin.copy_ ho (fun _ _ => rfl) ?_
    simp only [List.map_toArray, List.map_cons, List.map_nil, Builtin.copy_, List.getElem?_toArray, List.getElem?_cons_zero, List.getElem?_cons_succ, bindRun, run_underlying (under_slice ht), hv, hl1, run_sizeOf hel, hsz, hm0, harr]
    rfl
  · obtain ⟨w', k1, k2⟩ := hR.splice (P := P) (off := off) (ys := ys.take (Nat.min ys.length len)) hH hnil (by omega) har (by rw [has, htl]) (fun z hz => hs z (List.mem_of_mem_take hz))
    refine ⟨_, .int .i64 (Nat.min ys.length len), w', G, ?_, .inl rfl, by simp only [V], k2⟩
    refine run_builtin Builtin.copy_ ho (fun _ _ => rfl) ?_
    simp only [List.map_toArray, List.map_cons, List.map_nil, Builtin.copy_, List.getElem?_toArray, List.getElem?_cons_zero, List.getElem?_cons_succ, bindRun, run_underlying (under_slice ht), hv, hl1, run_sizeOf hel, hsz, harr, had, k1]
    rfl
theorem exec_copyNil {x y : Operand} {t t2 el : TypeId} {ys : List AV} (ho : o.op = .call { callee := .builtin .copy, args := #[x, y], argTypes := #[t, t2] })
    (hx : e.ev x = .nilS) (hy : elemsOf H (e.ev y) = some ys) (ht : (P.ti t).d = .slice el) (hel : (P.ti el).d ≠ .bad) (hn : ∀ z ∈ ys, z.nc = (P.ti el).size) : Exec P o e H (.int .i64 0) H :=
  .of_run fun N G a w hR hE => by
    have h1 := hE.ev x
    rw [hx] at h1
    simp only [V] at h1
    obtain ⟨hl1, _⟩ := run_firstCells (P := P) hR (hE.ev y) hy hn
    obtain ⟨arr, harr, _⟩ := run_firstCells_take (P := P) hR (hE.ev y) hy hn 0 (Nat.zero_le _)
    refine ⟨.int .i64 0, run_builtin Builtin.copy_ ho (fun _ _ => rfl) ?_, by simp only [V]⟩
    have hm0 : Nat.min ys.length 0 = 0 := by simp
    simp only [List.map_toArray, List.map_cons, List.map_nil, Builtin.copy_, List.getElem?_toArray, List.getElem?_cons_zero, List.getElem?_cons_succ, bindRun, run_underlying (under_slice ht), h1, hl1, run_sizeOf hel, hm0, harr]
    rfl
theorem set_same {H : Heap} {id : Nat} {o : AObj} (h : H[id]? = some o) : H.set id o = H := by
  refine List.ext_getElem? fun i => ?_
  rw [List.getElem?_set]
  split
  · rename_i e
    subst e
    have := (List.getElem?_eq_some_iff.1 h).1
    first | rw [if_pos this, h] | rw [h]
  · rfl
theorem exec_clear {x : Operand} {t el : TypeId} {id g sz off len : Nat} {ty : TypeId} {xs : List AV} (ho : o.op = .call { callee := .builtin .clear, args := #[x], argTypes := #[t] })
    (hx : e.ev x = .view id g off len) (hH : H[id]? = some (.row ty g sz xs)) (hfit : off + len ≤ xs.length) (ht : (P.ti t).d = .slice el) (hel : (P.ti el).d ≠ .bad) (hz : (P.ti el).zero.solid = true) (hzn : (P.ti el).zero.nc = sz) :
    Exec P o e H (.tup []) (H.set id (.row ty g sz (spliceL xs off (List.replicate len (P.ti el).zero)))) := by
  intro N G a w hR hE
  have h1 := hE.ev x
  rw [hx] at h1
  simp only [V] at h1
  obtain ⟨hid, hg, ad, cap, hv, hlen, hcur⟩ := h1
  obtain ⟨hg', hfx, hsz', hrow⟩ := hR.obj id _ hH
  have hnj : (P.ti el).zero ≠ .junk := by intro k; rw [k] at hz; cases hz
  obtain ⟨z', hz1, hz2⟩ := run_zero hnj w
  have hV : V H.length G (P.ti el).zero z' := by rw [hz2]; exact V_ofVal _ _ _ _
  obtain ⟨hzs, hzc⟩ := V_cells hV (AV.solid_or hz)
  rw [hzn] at hzs
  cases len with
  | zero =>
    have hset : H.set id (.row ty g sz (spliceL xs off (List.replicate 0 (P.ti el).zero))) = H := by
      simp only [spliceL, List.replicate_zero, List.length_nil, Nat.add_zero, List.append_nil, List.take_append_drop]
      exact set_same hH
    rw [hset]
    refine ⟨_, .tuple #[], w, G, ?_, .inl rfl, by simp only [V]; exact ⟨#[], rfl, rfl, by simp [Vcells]⟩, hR, Step.refl _ _ _⟩
    refine run_builtin Builtin.clear_ ho (fun _ _ => rfl) ?_
    simp only [List.map_toArray, List.map_cons, List.map_nil, Builtin.clear_, List.getElem?_toArray, List.getElem?_cons_zero, bindRun, run_underlying (under_slice ht), hv]
    cases ad <;> rfl
  | succ n =>
    rcases hcur hg'.symm with ⟨_, _, h0, _⟩ | ⟨hnil, had, hroom⟩
    · omega
    have hzsz : (Builtin.zeroCells z'.cells (n + 1)).size = (List.replicate (n + 1) (P.ti el).zero).length * sz := by rw [zeroCells_size, hzs, List.length_replicate]
    have harr : Vrow H.length G sz (List.replicate (n + 1) (P.ti el).zero) (Builtin.zeroCells z'.cells (n + 1)) 0 := Vrow_of fun i z hz' => by
      rw [List.getElem?_replicate] at hz'
      split at hz'
      · rename_i hin
        cases hz'
        refine ⟨hzn, Vcells_of fun j y hy => ?_⟩
        obtain ⟨u, hu, k⟩ := Vcells_get hzc hy
        refine ⟨u, ?_, k⟩
        have hj : j < sz := by rw [← hzn, AV.nc_eq]; rw [List.getElem?_eq_some_iff] at hy; exact hy.1
        have := madeCells_get z'.cells (n + 1) i j (by omega) hin
        rw [hzs] at this
        simp only [Builtin.zeroCells, hzs, Nat.zero_add]
        rw [this, ← hu, Nat.zero_add]
      · cases hz'
    obtain ⟨w', k1, k2⟩ := hR.splice (P := P) (off := off) (ys := List.replicate (n + 1) (P.ti el).zero) hH hnil (by simpa using hfit) harr hzsz (fun z hz' => by rw [List.eq_of_mem_replicate hz']; exact hz)
    refine ⟨_, .tuple #[], w', G, ?_, .inl rfl, by simp only [V]; exact ⟨#[], rfl, rfl, by simp [Vcells]⟩, k2⟩
    refine run_builtin Builtin.clear_ ho (fun _ _ => rfl) ?_
    simp only [List.map_toArray, List.map_cons, List.map_nil, Builtin.clear_, List.getElem?_toArray, List.getElem?_cons_zero, bindRun, run_underlying (under_slice ht), hv, had, hz1, k1]
    rfl
theorem exec_clearNil {x : Operand} {t el : TypeId} (ho : o.op = .call { callee := .builtin .clear, args := #[x], argTypes := #[t] }) (hx : e.ev x = .nilS) (ht : (P.ti t).d = .slice el) : Exec P o e H (.tup []) H :=
  .of_run fun N G a w hR hE => by
    have h1 := hE.ev x
    rw [hx] at h1
    simp only [V] at h1
    refine ⟨.tuple #[], run_builtin Builtin.clear_ ho (fun _ _ => rfl) ?_, by simp only [V]; exact ⟨#[], rfl, rfl, by simp [Vcells]⟩⟩
    simp only [List.map_toArray, List.map_cons, List.map_nil, Builtin.clear_, List.getElem?_toArray, List.getElem?_cons_zero, bindRun, run_underlying (under_slice ht), h1]
    rfl
/-! ### x.(T) -/
theorem exec_assert {x : Operand} {t s : TypeId} {ok : Bool} {t' : TypeId} {y r : AV} (ho : o.op = .typeAssert x t s ok) (hx : e.ev x = .iface t' y) (hs : (P.ti s).d ≠ .bad) (hi : ∀ b, (P.ti s).d ≠ .iface b)
    (hr : (t' = s ∧ r = if ok = true then .tup [y, .bool true] else y) ∨ (t' ≠ s ∧ ok = true ∧ (P.ti s).zero ≠ .junk ∧ r = .tup [(P.ti s).zero, .bool false])) : Exec P o e H r H :=
  .of_run fun N G a w hR hE => by
    have h1 := hE.ev x
    rw [hx] at h1
    simp only [V] at h1
    obtain ⟨v, hv, k⟩ := h1
    obtain ⟨u, hu, hud⟩ := ti_under hs
    have hni : ∀ ms, u ≠ .interface ms := by rintro ms rfl; exact hi _ hud
    have run : (Instr.typeAssert (a.eval x) t s ok).run P w = (if t' = s then (pure (if ok then .tuple #[v, .bool true] else v) : Sem Value) else (if ok then (do pure (.tuple #[← zeroValue s, .bool false]) : Sem Value) else runtimePanic (.typeAssertion (some t) (some t') s ""))).run P w := by
      rw [hv]
      simp only [Instr.typeAssert, bindRun, run_underlying hu]
      all_goals (cases u <;> first | rfl | exact absurd rfl (hni _))
    rcases hr with ⟨rfl, rfl⟩ | ⟨hne, rfl, hz, rfl⟩
    · refine ⟨if ok then .tuple #[v, .bool true] else v, ?_, ?_⟩
      · simp only [execOp, ho]
        exact run_value P _ w _ _ (run.trans (by rw [if_pos rfl]; rfl))
      · cases ok
        · exact k
        · exact V_pair k (by simp only [V])
    · obtain ⟨z, hz1, hz2⟩ := run_zero hz w
      refine ⟨.tuple #[z, .bool false], ?_, ?_⟩
      · simp only [execOp, ho]
        exact run_value P _ w _ _ (run.trans (by rw [if_neg hne]; simp only [if_true, bindRun, hz1, pureRun]))
      · exact V_pair (by rw [hz2]; exact V_ofVal _ _ _ _) (by simp only [V])
theorem exec_assertNil {x : Operand} {t s : TypeId} (ho : o.op = .typeAssert x t s true) (hx : e.ev x = .nilI) (hs : (P.ti s).d ≠ .bad) (hi : ∀ b, (P.ti s).d ≠ .iface b) (hz : (P.ti s).zero ≠ .junk) : Exec P o e H (.tup [(P.ti s).zero, .bool false]) H :=
  .of_run fun N G a w hR hE => by
    have h1 := hE.ev x
    rw [hx] at h1
    simp only [V] at h1
    obtain ⟨u, hu, hud⟩ := ti_under hs
    have hni : ∀ ms, u ≠ .interface ms := by rintro ms rfl; exact hi _ hud
    obtain ⟨z, hz1, hz2⟩ := run_zero hz w
    refine ⟨.tuple #[z, .bool false], ?_, V_pair (by rw [hz2]; exact V_ofVal _ _ _ _) (by simp only [V])⟩
    simp only [execOp, ho]
    refine run_value P _ w _ _ ?_
    rw [h1]
    simp only [Instr.typeAssert, bindRun, run_underlying hu]
    cases u <;> first | (simp only [if_true, bindRun, hz1, pureRun]; done) | exact absurd rfl (hni _)
/-! ### s[:0:0], s[len:] -/
theorem exec_slice00 {t el : TypeId} {x hi mx : Operand} {k1 k2 : IntKind} {r : AV} (ho : o.op = .slice t x none (some hi) (some mx)) (ht : (P.ti t).d = .slice el) (hel : (P.ti el).d ≠ .bad) (hhi : e.ev hi = .int k1 0) (hmx : e.ev mx = .int k2 0)
    (hx : (e.ev x = .nilS ∧ r = .nilS) ∨ r = .zS ∧ ∀ (G : Ghost) (w : World) (v : Value), Rel G H w → V H.length G (e.ev x) v → ∃ ad l c, v = .slice (some ad) l c) : Exec P o e H r H :=
  .of_run fun N G a w hR hE => by
    have h1 := hE.ev hi
    have h2 := hE.ev mx
    rw [hhi] at h1
    rw [hmx] at h2
    simp only [V] at h1 h2
    have run : ∀ ad l c, a.eval x = .slice ad l c → (execOp a.eval o).run P w = .ok (.value (.slice ad 0 0)) w := by
      intro ad l c hv
      simp only [execOp, ho]
      refine run_value P _ w _ _ ?_
      simp only [Instr.sliceAt, bindRun, run_underlying (under_slice ht), Instr.slice, hv, Option.map_some, Option.map_none, Instr.sliceBounds, Instr.sliceBound, h1, h2, asIntOf, pureRun, iteRun, run_sizeOf hel]
      simp
    rcases hx with ⟨hx, rfl⟩ | ⟨rfl, hx⟩
    · have h := hE.ev x
      rw [hx] at h
      simp only [V] at h
      exact ⟨_, run _ _ _ h, by simp only [V]⟩
    · obtain ⟨ad, l, c, hv⟩ := hx G w _ hR (hE.ev x)
      exact ⟨_, run _ _ _ hv, by simp only [V]; exact ⟨_, rfl⟩⟩
theorem exec_sliceEnd {t el : TypeId} {x : Operand} {lo hi : Option Operand} {id g off len : Nat} (ho : o.op = .slice t x lo hi none) (hx : e.ev x = .view id g off len) (ht : (P.ti t).d = .slice el) (hel : (P.ti el).d ≠ .bad)
    (hl : boundOf e lo 0 = some (len : Int)) (hh : boundOf e hi len = some (len : Int)) (hg0 : 0 < g) : Exec P o e H (.view id 0 0 0) H :=
  .of_run fun N G a w hR hE => by
    have hv := hE.ev x
    rw [hx] at hv
    simp only [V] at hv
    obtain ⟨hid, hg, ad, cap, hv, hcap, hcur⟩ := hv
    refine ⟨.slice (if cap = len then ad else ad.map (·.add (len * (P.ti el).size))) (len - len) (cap - len), ?_, ?_⟩
    · simp only [execOp, ho]
      refine run_value P _ w w _ ?_
      simp only [Instr.sliceAt, bindRun, run_underlying (under_slice ht), Instr.slice, hv, Option.map_none, pureRun, run_bounds (b := true) hE hl hh (by omega) (Int.le_refl _) (by omega : (len : Int) ≤ (cap : Int)), run_sizeOf hel, Int.toNat_natCast]
    · simp only [V]
      refine ⟨hid, Nat.zero_le _, _, _, by rw [Nat.sub_self], Nat.zero_le _, fun h0 => ?_⟩
      omega
/-! ### Functions of the machine -/
theorem run_ext {c : Call} {f : FuncId} {fn : Func} {a : Act} {ex : Array Value → Sem Value} (ho : o.op = .call c) (hc : c.callee = .value (.func f)) (hf : P.funcs[f]? = some fn) (hb : fn.body = none) (hn : (fn.name == "runtime.NumGoroutine") = false) (hx : Extern.findNext fn = none) (he : Extern.find fn = some ex) {w w' : World} {v : Value}
    (h : (ex (c.args.map a.eval)).run P w = .ok v w') : (execOp a.eval o).run P w = .ok (.value v) w' := by
  simp only [execOp, ho, resolve, hc, Act.eval, Deferred.ofValue, bindRun, pureRun, invoke]
  simp only [callFunc, bindRun, program, Sem.run, hf, hn, Bool.false_eq_true, if_false, hb, Option.isNone_none, if_true, mark, hx, he, Array.append_empty, Array.empty_append]
  simp only [bindRun, h, pureRun]
theorem exec_sliceDataNil {x : Operand} {ts : Array TypeId} (ho : o.op = .call { callee := .builtin .unsafeSliceData, args := #[x], argTypes := ts }) (hx : e.ev x = .nilS) : Exec P o e H .nilP H :=
  .of_run fun N G a w hR hE => by
    have h1 := hE.ev x
    rw [hx] at h1
    simp only [V] at h1
    exact ⟨.pointer none, run_builtin Builtin.unsafeSliceData_ ho (fun _ _ => rfl) (by simp only [List.map_toArray, List.map_cons, List.map_nil, h1]; rfl), by simp only [V]⟩
theorem sliceData_eq {ts : Array TypeId} {t : TypeId} {ad : Addr} {l c : Nat} (h : c ≠ 0) : Builtin.unsafeSliceData_ ts t #[.slice (some ad) l c] = pure (.pointer (some ad)) := by
  show (if c ≠ 0 then _ else _) = _
  rw [if_pos h]
theorem unsafeString0_eq {ts : Array TypeId} {t pt : TypeId} {p : Option Addr} {k : IntKind} (h : ts[0]? = some pt) (w : World) : (Builtin.unsafeString_ ts t #[.pointer p, .int k 0]).run P w = .ok (.string .empty) w := by
  show ((asInt (.int k 0)) >>= fun n => _ : Sem Value).run P w = _
  rw [bindRun]
  simp only [asInt, asIntOf, bindRun, pureRun, h]
  have hmax : ¬ ((0 : Int) > IntKind.i64.max) := by simp only [IntKind.max, IntKind.signed, IntKind.bits, if_true]; omega
  simp only [iteRun, hmax, if_false]
  cases p <;> rfl
theorem exec_sliceData {x : Operand} {ts : Array TypeId} {id g sz off len : Nat} {ty : TypeId} {xs : List AV} (ho : o.op = .call { callee := .builtin .unsafeSliceData, args := #[x], argTypes := ts }) (hx : e.ev x = .view id g off (len + 1)) (hH : H[id]? = some (.row ty g sz xs)) : Exec P o e H (.vptr id g off 0) H :=
  .of_run fun N G a w hR hE => by
    have h1 := hE.ev x
    rw [hx] at h1
    simp only [V] at h1
    obtain ⟨hid, hg, ad, cap, hv, hlen, hcur⟩ := h1
    have hg' := (hR.obj id _ hH).1
    rcases hcur hg'.symm with ⟨_, _, h0, _⟩ | ⟨hnil, had, hroom⟩
    · omega
    refine ⟨.pointer ad, run_builtin Builtin.unsafeSliceData_ ho (fun _ _ => rfl) ?_, ?_⟩
    · simp only [List.map_toArray, List.map_cons, List.map_nil, hv, had]
      rw [sliceData_eq (by omega)]
      rfl
    · simp only [V]
      exact ⟨hid, hg, _, rfl, fun _ => by rw [had]; simp⟩
theorem exec_unsafeStr0 {x l : Operand} {ts : Array TypeId} {k : IntKind} (ho : o.op = .call { callee := .builtin .unsafeString, args := #[x, l], argTypes := ts }) (hts : 0 < ts.size) (hl : e.ev l = .int k 0) (hx : e.ev x = .nilP ∨ ∃ id g i k, e.ev x = .vptr id g i k) : Exec P o e H (.str []) H :=
  .of_run fun N G a w hR hE => by
    have h1 := hE.ev x
    have h2 := hE.ev l
    rw [hl] at h2
    simp only [V] at h2
    obtain ⟨p, hp⟩ : ∃ p, a.eval x = .pointer p := by
      rcases hx with hx | ⟨_, _, _, _, hx⟩ <;> rw [hx] at h1 <;> simp only [V] at h1
      · exact ⟨_, h1⟩
      · obtain ⟨_, _, p, hv, _⟩ := h1; exact ⟨_, hv⟩
    refine ⟨.string .empty, run_builtin Builtin.unsafeString_ ho (fun _ _ => rfl) ?_, by simp only [V]; rfl⟩
    simp only [List.map_toArray, List.map_cons, List.map_nil, hp, h2]
    exact unsafeString0_eq (Array.getElem?_eq_getElem hts) w
end Go.Ab
end
section
set_option linter.unusedSimpArgs false
set_option linter.unusedVariables false
namespace Go.Ab
variable {P : Program} {o : Oper} {e : Env} {H : Heap}

theorem cellsOf_ti {t : TypeId} (h : (P.ti t).d ≠ .bad) : P.cellsOf t = (P.ti t).size := by
  obtain ⟨i, hi, hs, _⟩ := ti_info h
  simp [Program.cellsOf, hi, hs]
theorem lies_self {t : TypeId} {count off n : Nat} (h : (P.ti t).d ≠ .bad) (hs : (P.ti t).size = 1) (hfit : off + n ≤ count) : liesAt P P.depth t (count / P.cellsOf t) off t n = true := by
  have hd : P.depth = (2 * (P.types.size + Made.depth) + 1) + 1 := rfl
  rw [cellsOf_ti h, hs]
  have hrow : rowAt P (fun x => sameLayout P P.depth x t) P.depth t (count / 1) off n = true := by
    rw [hd, rowAt]
    simp only [cellsOf_ti h, hs, Nat.div_one, Nat.mod_one, one_ne_zero', if_false, beq_self_eq_true, Bool.true_and, Bool.or_eq_true, Bool.and_eq_true, decide_eq_true_eq]
    left
    exact ⟨hfit, by rw [sameLayout]; simp⟩
  rw [hd, liesAt, hrow]
  rfl
where one_ne_zero' : ((1 : Nat) = 0) = False := by simp
theorem run_variablesAt {t : TypeId} {w : World} {b off n : Nat} {c : Array Value} {fr : Nat × Nat} (hw : w.heap[b]? = some (.cells c t fr)) (h : (P.ti t).d ≠ .bad) (hs : (P.ti t).size = 1) (hfit : off + n ≤ c.size) : (variablesAt ⟨b, off, none⟩ t n).run P w = .ok true w := by
  simp only [variablesAt, bindRun, program, Sem.run, shape, World.shape?, hw, pureRun, lies_self h hs hfit]
theorem run_loadBytes {w : World} {b : Nat} {c : Array Value} {t : TypeId} {fr : Nat × Nat} (hw : w.heap[b]? = some (.cells c t fr)) {n : Nat} {G : Ghost} : ∀ (xs : List AV) (l : List UInt8) (off : Nat) (acc : ByteArray), bytA xs = some l → Vcells n G xs c off → (loadBytes ⟨b, off, none⟩ acc xs.length).run P w = .ok (acc ++ ba l) w := by
  intro xs
  induction xs with
  | nil =>
    intro l off acc h _
    cases h
    show Result.ok acc w = _
    congr 1
    apply ByteArray.ext
    simp [ba]
  | cons x xs ih =>
    intro l off acc h hv
    unfold bytA at h
    split at h
    · rename_i e; cases e
    · rename_i i r e
      cases e
      split at h
      · rename_i l' hl
        cases h
        simp only [Vcells, V] at hv
        obtain ⟨⟨v, hc, rfl⟩, hv⟩ := hv
        have := ih l' (off + 1) (acc.push (i.toNat).toUInt8) hl hv
        rw [List.length_cons, loadBytes, bindRun, run_load hw hc]
        simp only [add_plain]
        rw [this]
        congr 1
        apply ByteArray.ext
        simp [ba, Nat.toUInt8]
      · cases h
    · cases h
theorem Rel.killed {G : Ghost} {w w' : World} (hR : Rel G H w) {id : Nat} {o : AObj} (hid : H[id]? = some o) (hs : w.heap.size ≤ w'.heap.size) (hw : ∀ b, b < w.heap.size → (owns (G.loc id) o = true → b ≠ (G.loc id).block) → w'.heap[b]? = w.heap[b]?) (hos : w'.os = w.os ∧ w'.tape = w.tape ∧ w'.output = w.output) :
    Rel G (H.set id .dead) w' ∧ Step H.length (H.set id AObj.dead).length G w G w' := by
  have := hR.put (w' := w') id _ .dead (G.loc id) hid (by rw [Ghost.put_self]; exact Ext.refl _ _) hs (fun h => by simp [owns] at h) hw hos trivial
  rwa [Ghost.put_self] at this
theorem unsafeString_eq {ts : Array TypeId} {t pt : TypeId} {a : Addr} {k : IntKind} {m : Nat} (h : ts[0]? = some pt) (hm : m ≤ 9223372036854775807) (hm0 : m ≠ 0) (w : World) : (Builtin.unsafeString_ ts t #[.pointer (some a), .int k m]).run P w =
    ((do if ← variablesAt a (← elemOf pt) m then do
            let s ← loadBytes a .empty m
            freeze a m
            pure (.string s)
          else unsupported (.unsafePointer "String: not so many bytes at ptr")) : Sem Value).run P w := by
  show ((asInt (.int k m)) >>= fun n => _ : Sem Value).run P w = _
  rw [bindRun]
  simp only [asInt, asIntOf, bindRun, pureRun, h]
  have hmax : ¬ ((m : Int) > IntKind.i64.max) := by simp only [IntKind.max, IntKind.signed, IntKind.bits, if_true]; omega
  have hneg : ¬ ((m : Int) < 0) := by omega
  have hz : ¬ ((m : Int) = 0) := by omega
  simp only [iteRun, hmax, hneg, hz, if_false, Int.toNat_natCast, bindRun]
theorem exec_unsafeStr {x l : Operand} {ts : Array TypeId} {k : IntKind} {pt el : TypeId} {id g sz i m : Nat} {xs : List AV} {b : List UInt8} (ho : o.op = .call { callee := .builtin .unsafeString, args := #[x, l], argTypes := ts }) (hts : ts[0]? = some pt) (hpt : (P.ti pt).d = .pointer el) (hl : e.ev l = .int k m) (hm : m ≠ 0)
    (hx : e.ev x = .vptr id g i 0) (hH : H[id]? = some (.row el g 1 xs)) (hel : (P.ti el).d ≠ .bad) (hsz : (P.ti el).size = 1) (hfit : i + m ≤ xs.length) (hmax : m ≤ 9223372036854775807) (hb : bytA ((xs.drop i).take m) = some b) : Exec P o e H (.str b) (H.set id .dead) := by
  intro N G a w hR hE
  have h1 := hE.ev x
  have h2 := hE.ev l
  rw [hx] at h1
  rw [hl] at h2
  simp only [V] at h1 h2
  obtain ⟨hid, hg, p, hv, hcur⟩ := h1
  obtain ⟨hg', hfx, hsz', hrow⟩ := hR.obj id _ hH
  rcases hrow with ⟨_, rfl⟩ | ⟨hnil, c, hw, hcs, hroom, hr⟩
  · simp at hfit; omega
  rw [hsz'] at hroom hr
  simp only [Nat.mul_one] at hroom
  rw [hcur hg'.symm, hsz', Nat.mul_one, Nat.add_zero] at hv
  have hlen : ((xs.drop i).take m).length = m := by rw [List.length_take, List.length_drop]; omega
  have hint := bytA_ints _ _ hb
  have hcells : Vcells H.length G ((xs.drop i).take m) c ((G.loc id).base + i) := Vcells_of fun j y hy => by
    have hy' := hy
    rw [List.getElem?_take] at hy
    split at hy
    · rw [List.getElem?_drop] at hy
      obtain ⟨n1, n2⟩ := Vrow_get hr hy
      obtain ⟨q, rfl⟩ := hint y (List.mem_of_getElem? hy')
      simp only [AV.cells, Vcells, and_true, Nat.mul_one] at n2
      obtain ⟨u, hu, ku⟩ := n2
      exact ⟨u, by rw [← hu]; congr 1; omega, ku⟩
    · cases hy
  have hload := run_loadBytes (P := P) (w := w) hw _ _ _ .empty hb hcells
  rw [hlen] at hload
  have hvar := run_variablesAt (P := P) (off := (G.loc id).base + i) (n := m) hw hel hsz (by omega)
  have hkill := hR.killed (w' := w.freeze ⟨(G.loc id).block, (G.loc id).base + i, none⟩ m) hH (by simp only [World.freeze]; split <;> simp) (fun b' _ hne => by
    simp only [World.freeze]
    split
    · rfl
    · simp only [Array.getElem?_modify]
      rw [if_neg (fun e => hne (by simp [owns, hnil]) e.symm)]) ⟨by simp only [World.freeze]; split <;> rfl, by simp only [World.freeze]; split <;> rfl, by simp only [World.freeze]; split <;> rfl⟩
  refine ⟨_, .string (ba b), _, _, ?_, .inl rfl, by simp only [V], hkill⟩
  refine run_builtin Builtin.unsafeString_ ho (fun _ _ => rfl) ?_
  simp only [List.map_toArray, List.map_cons, List.map_nil, hv, h2]
  rw [unsafeString_eq hts hmax hm]
  simp only [bindRun, elemOf, run_underlying (under_pointer hpt), pureRun, hvar, if_true, hload, freeze, Sem.run]
  simp

/-! ### Functions without a body -/
def extNames : List String := ["internal/bytealg.IndexByteString", "internal/abi.NoEscape", "internal/bytealg.MakeNoZero"]
/-- What is known of a function that the machine itself plays. -/
structure ExtFn (P : Program) (f : FuncId) (name : String) (ex : Array Value → Sem Value) : Prop where
  fn : ∃ fn, P.funcs[f]? = some fn ∧ fn.body = none ∧ (fn.name == "runtime.NumGoroutine") = false ∧ Extern.findNext fn = none ∧ Extern.find fn = some ex
theorem run_extFn {c : Call} {f : FuncId} {nm : String} {a : Act} {ex : Array Value → Sem Value} (ho : o.op = .call c) (hc : c.callee = .value (.func f)) (h : ExtFn P f nm ex) {w w' : World} {v : Value}
    (hr : (ex (c.args.map a.eval)).run P w = .ok v w') : (execOp a.eval o).run P w = .ok (.value v) w' := by
  obtain ⟨fn, h1, h2, h3, h4, h5⟩ := h.fn
  exact run_ext ho hc h1 h2 h3 h4 h5 hr
theorem exec_noEscape {x : Operand} {f : FuncId} {ts : Array TypeId} (ho : o.op = .call { callee := .value (.func f), args := #[x], argTypes := ts }) (h : ExtFn P f "internal/abi.NoEscape" Extern.AbiNoEscape.same) : Exec P o e H (e.ev x) H :=
  .of_run fun N G a w hR hE => ⟨a.eval x, run_extFn ho rfl h (by simp only [List.map_toArray, List.map_cons, List.map_nil]; rfl), hE.ev x⟩
def findByte (s : List UInt8) (c : Nat) (i : Nat) : Int := match s with
  | [] => -1
  | b :: r => match Nat.beq b.toNat c with | true => .ofNat i | false => findByte r c (i + 1)
theorem findByte_spec (s : List UInt8) (c : Nat) (hc : c < 256) : ∀ (k i : Nat), k + i = s.length → goInt (findByte (s.drop i) c i) = (match ((List.range' i k).find? fun j => (ba s)[j]! == c.toUInt8) with | some j => goInt j | none => goInt (-1)) := by
  intro k
  induction k with
  | zero => intro i h; rw [List.drop_eq_nil_of_le (by omega)]; rfl
  | succ k ih =>
    intro i h
    have hi : i < s.length := by omega
    rw [List.drop_eq_getElem_cons hi, findByte, List.range'_succ, List.find?_cons]
    have hg : (ba s)[i]! = s[i] := by
      have := ba_get? s i
      rw [getElem!_def, this, List.getElem?_eq_getElem hi]
    have hb : ((ba s)[i]! == c.toUInt8) = Nat.beq (s[i]).toNat c := by
      rw [hg, Bool.eq_iff_iff, beq_iff_eq, Nat.beq_eq]
      constructor
      · intro h; rw [h]; simp [Nat.toUInt8, Nat.mod_eq_of_lt hc]
      · intro h; rw [← h]; simp [Nat.toUInt8]
    rw [hb]
    cases Nat.beq (s[i]).toNat c with
    | true => rfl
    | false => exact ih (i + 1) (by omega)
theorem exec_indexByte {x y : Operand} {f : FuncId} {ts : Array TypeId} {s : List UInt8} {c : Nat} (ho : o.op = .call { callee := .value (.func f), args := #[x, y], argTypes := ts }) (h : ExtFn P f "internal/bytealg.IndexByteString" Extern.BytealgIndexByte.indexByte) (hx : e.ev x = .str s) (hy : e.ev y = .int .u8 c) (hc : c < 256) : Exec P o e H (.int .i64 (findByte s c 0)) H :=
  .of_run fun N G a w hR hE => by
    have h1 := hE.ev x
    have h2 := hE.ev y
    rw [hx] at h1
    rw [hy] at h2
    simp only [V] at h1 h2
    refine ⟨.int .i64 (findByte s c 0), run_extFn ho rfl h ?_, by simp only [V]⟩
    simp only [List.map_toArray, List.map_cons, List.map_nil, h1, h2]
    have := findByte_spec s c hc s.length 0 (by omega)
    rw [List.drop_zero, ← List.range_eq_range', ← ba_size] at this
    show (match ((List.range (ba s).size).find? fun i => (ba s)[i]! == c.toUInt8) with | some i => (pure (goInt i) : Sem Value) | none => pure (goInt (-1))).run P w = _
    have h3 : (Value.int .i64 (findByte s c 0)) = goInt (findByte s c 0) := rfl
    rw [h3, this]
    cases (List.range (ba s).size).find? fun i => (ba s)[i]! == c.toUInt8 <;> rfl
theorem digits_size : ∀ (n t : Nat) (acc : Array Value), (Extern.BytealgMakeNoZero.digits n t acc).size = acc.size + n := by
  intro n
  induction n with
  | zero => intro t acc; rfl
  | succ n ih => intro t acc; rw [Extern.BytealgMakeNoZero.digits, ih]; simp; omega
theorem exec_makeNoZero {x : Operand} {f : FuncId} {ts : Array TypeId} {m : Nat} {ps rs : Array TypeId} {t el : TypeId} (ho : o.op = .call { callee := .value (.func f), args := #[x], argTypes := ts }) (h : ExtFn P f "internal/bytealg.MakeNoZero" (Extern.BytealgMakeNoZero.makeNoZero ps rs)) (hrs : rs[0]? = some t) (ht : (P.ti t).d = .slice el)
    (hx : e.ev x = .int .i64 m) (hm : m ≤ 4294967296) : Exec P o e H (.view H.length 1 0 m) (H ++ [.row el 1 1 (List.replicate m .junk)]) := by
  intro N G a w hR hE
  have h1 := hE.ev x
  rw [hx] at h1
  simp only [V] at h1
  let q : Question := .appendCap m 0 el
  let cap := q.cut (w.tape w.drawn q)
  have hcap : m ≤ cap := by simp [cap, q, Question.cut]
  let q2 : Question := .extern "internal/bytealg.MakeNoZero.bytes" 0
  let arr := Extern.BytealgMakeNoZero.digits cap (q2.cut (w.tape (w.drawn + 1) q2)) #[]
  have hsz : arr.size = cap * 1 := by simp [arr, digits_size]
  have hr : Vrow H.length G 1 (List.replicate m .junk) arr 0 := Vrow_of fun i z hz => by
    rw [List.getElem?_replicate] at hz
    split at hz
    · cases hz
      refine ⟨rfl, ?_⟩
      simp only [AV.cells, Vcells, V, and_true]
      exact ⟨arr[0 + i * 1]'(by omega), by simp⟩
    · cases hz
  refine ⟨_, .slice (some ⟨w.heap.size, 0, none⟩) m cap, _, _, run_extFn ho rfl h ?_, .inl rfl, ?_, hR.newRow hsz (by simpa using hcap) hr { w with heap := w.heap.push (.cells arr el), drawn := w.drawn + 1 + 1 } rfl ⟨rfl, rfl, rfl⟩⟩
  · simp only [List.map_toArray, List.map_cons, List.map_nil, h1]
    have c1 : (decide ((m : Int) < 0) || decide ((m : Int) > 2 ^ 48)) = false := by
      rw [Bool.or_eq_false_iff]; exact ⟨decide_eq_false (by omega), decide_eq_false (by show ¬ (_ > (281474976710656 : Int)); omega)⟩
    have hdef : Extern.BytealgMakeNoZero.makeNoZero ps rs #[.int .i64 m] = (do
        let some t := rs[0]? | stuck "bytealg.MakeNoZero: no result type"
        let .slice elem ← underlying t | stuck "bytealg.MakeNoZero: slice type expected"
        if (m : Int) < 0 || (m : Int) > 2 ^ 48 then runtimePanic (.error "makeslice: len out of range")
        let cap ← choose (.appendCap (m : Int).toNat 0 elem)
        askRoom cap
        let bytes ← choose (.extern "internal/bytealg.MakeNoZero.bytes" 0)
        let a ← newRow elem (Extern.BytealgMakeNoZero.digits cap bytes #[])
        pure (.slice (some a) (m : Int).toNat cap)) := rfl
    rw [hdef]
    simp only [hrs, bindRun, run_underlying (under_slice ht), c1, Bool.false_eq_true, if_false, pureRun, Int.toNat_natCast, choose, Sem.run, Question.forced, run_askRoom, newRow, newObj]
    rfl
  · have := V_moved (n := H.length) (b := w.heap.size) (sz := 1) (G := G) rfl hcap
    simpa using this
end Go.Ab
end
section
set_option linter.unusedSimpArgs false
set_option linter.unusedVariables false
/-! A pointer seen as unsafe.Pointer, and back. -/
namespace Go.Ab
variable {P : Program} {o : Oper} {e : Env} {H : Heap}
theorem lies_whole {t : TypeId} {count : Nat} (h : (P.ti t).d ≠ .bad) (hs : (P.ti t).size ≠ 0) (hc : 1 ≤ count) : liesAt P P.depth t count 0 t 1 = true := by
  have hd : P.depth = (2 * (P.types.size + Made.depth) + 1) + 1 := rfl
  have hrow : rowAt P (fun x => sameLayout P P.depth x t) P.depth t count 0 1 = true := by
    rw [hd, rowAt]
    simp only [cellsOf_ti h, hs, if_false, Nat.zero_div, Nat.zero_mod, beq_self_eq_true, Bool.true_and, Bool.or_eq_true, Bool.and_eq_true, decide_eq_true_eq]
    left
    exact ⟨by omega, by rw [sameLayout]; simp⟩
  rw [hd, liesAt, hrow]
  rfl
theorem run_seenAt {w : World} {b off : Nat} {c : Array Value} {t : TypeId} {fr : Nat × Nat} (hw : w.heap[b]? = some (.cells c t fr)) : (Conv.seenAt ⟨b, off, none⟩).run P w = .ok ⟨b, off, none⟩ w := by
  simp only [Conv.seenAt, viewAt, bindRun, shape, Sem.run, World.shape?, hw, pureRun, Option.isSome_some, if_true]
theorem exec_toUnsafe {s d t : TypeId} {x : Operand} {id off : Nat} {ty : TypeId} {cs : List AV} (ho : o.op = .convert s d x) (hx : e.ev x = .ptr id off) (hs : (P.ti s).d = .pointer t) (ht : (P.ti t).d ≠ .bad) (hz : (P.ti t).size ≠ 0) (hd : P.underlying d = some .unsafePointer) (hH : H[id]? = some (.cells ty cs)) (hoff : off < cs.length) : Exec P o e H (.ptr id off) H :=
  .of_run fun N G a w hR hE => by
    have hv := hE.ev x
    rw [hx] at hv
    have hv0 := hv
    simp only [V] at hv
    obtain ⟨hid, hfx, hv⟩ := hv
    obtain ⟨_, c, hw, hcs, _⟩ := hR.obj id _ hH
    refine ⟨_, ?_, hv0⟩
    simp only [execOp, ho]
    refine run_value P _ w w _ ?_
    have hcell : (cellsIn (G.loc id).block).run P w = .ok (some c.size) w := by simp only [cellsIn, bindRun, shape, Sem.run, World.shape?, hw, pureRun]
    simp only [convert, bindRun, run_underlying (under_pointer hs), run_underlying hd, hv, Conv.unsafePointer, run_seenAt hw, hcell, run_sizeOf ht, pureRun]
    simp [hz, hcs, hoff, pureRun]
    intro hle
    omega
theorem exec_fromUnsafe {s d u : TypeId} {x : Operand} {id : Nat} {cs : List AV} (ho : o.op = .convert s d x) (hx : e.ev x = .ptr id 0) (hs : P.underlying s = some .unsafePointer) (hd : (P.ti d).d = .pointer u) (hu : (P.ti u).d ≠ .bad) (hz : (P.ti u).size ≠ 0) (hH : H[id]? = some (.cells u cs)) (hl : (P.ti u).size ≤ cs.length) : Exec P o e H (.ptr id 0) H :=
  .of_run fun N G a w hR hE => by
    have hv := hE.ev x
    rw [hx] at hv
    have hv0 := hv
    simp only [V] at hv
    obtain ⟨hid, hfx, hv⟩ := hv
    obtain ⟨_, c, hw, hcs, _⟩ := hR.obj id _ hH
    refine ⟨_, ?_, hv0⟩
    simp only [execOp, ho]
    refine run_value P _ w w _ ?_
    have hvar : (variablesAt ⟨(G.loc id).block, 0, none⟩ u 1).run P w = .ok true w := by
      have : 1 ≤ c.size / P.cellsOf u := by rw [cellsOf_ti hu, hcs]; exact (Nat.le_div_iff_mul_le (Nat.pos_of_ne_zero hz)).2 (by omega)
      simp only [variablesAt, bindRun, program, Sem.run, shape, World.shape?, hw, pureRun, lies_whole hu hz this]
    simp only [convert, bindRun, run_underlying (under_pointer hd), run_underlying hs, hv, Conv.unsafePointer, run_seenAt hw, run_sizeOf hu, pureRun, hvar]
    simp [pureRun]
end Go.Ab
end
section
set_option linter.unusedSimpArgs false
set_option linter.unusedVariables false
/-! Drawn regions again: 0 asks no object, 1 reads objects, 2 may write them; 3 reads what no 4 writes. -/
namespace Go.Ab
variable {P : Program} {N : Fr} {ops : Array Oper} {md : Region.Mode} {cls : Nat → Nat} {S : Heap → Prop}
def rdP (a : Nat) : Bool := Nat.beq a 1 || Nat.beq a 3
def okP (a b : Nat) : Bool := Nat.beq a 0 || Nat.beq b 0 || (rdP a && rdP b) || (Nat.beq a 3 && Nat.beq b 4) || (Nat.beq a 4 && Nat.beq b 3)
theorem okP_spec {a b : Nat} (h : okP a b = true) : a = 0 ∨ b = 0 ∨ ((a = 1 ∨ a = 3) ∧ (b = 1 ∨ b = 3)) ∨ (a = 3 ∧ b = 4) ∨ (a = 4 ∧ b = 3) := by
  simp only [okP, rdP, Bool.or_eq_true, Bool.and_eq_true, Nat.beq_eq] at h
  rcases h with (((h | h) | h) | h) | h
  · exact .inl h
  · exact .inr (.inl h)
  · exact .inr (.inr (.inl h))
  · exact .inr (.inr (.inr (.inl h)))
  · exact .inr (.inr (.inr (.inr h)))
structure CStep (P : Program) (N : Fr) (ops : Array Oper) (cls : Nat → Nat) (S : Heap → Prop) (i : Nat) (o : Oper) (e : Env) (H : Heap) (x : AV) (H' : Heap) : Prop where
  dst : dstOk N o.dst
  step : LStep P N ops i o e H x H'
  quiet : cls i = 0 → H' = H ∧ ∀ H2, LStep P N ops i o e H2 x H2
  reads : cls i = 1 → H' = H
  stable : cls i = 3 → H' = H ∧ ∀ H2, S H2 → LStep P N ops i o e H2 x H2
  held : cls i = 4 → S H ∧ S H'
theorem CStep.agree {i : Nat} {o : Oper} {e e2 : Env} {H H' : Heap} {x : AV} (h : CStep P N ops cls S i o e H x H') (k : ∀ s ∈ o.looksAt ops, e2.get s = e.get s) : CStep P N ops cls S i o e2 H x H' :=
  ⟨h.dst, h.step.agree k, fun hq => ⟨(h.quiet hq).1, fun H2 => ((h.quiet hq).2 H2).agree k⟩, h.reads, fun hq => ⟨(h.stable hq).1, fun H2 hS => ((h.stable hq).2 H2 hS).agree k⟩, h.held⟩
def CAny (P : Program) (N : Fr) (md : Region.Mode) (ops : Array Oper) (cls : Nat → Nat) (S : Heap → Prop) (ef : Env) (Hf : Heap) : Nat → Array Bool → Env → Heap → Prop
  | 0, listed, e, H => Region.ready md ops listed = [] ∧ (∀ s, e.get s = ef.get s) ∧ H = Hf
  | fuel + 1, listed, e, H => (Region.ready md ops listed = [] → (∀ s, e.get s = ef.get s) ∧ H = Hf) ∧
    ∀ i ∈ Region.ready md ops listed, ∃ o x H', ops[i]? = some o ∧ CStep P N ops cls S i o e H x H' ∧ CAny P N md ops cls S ef Hf fuel (listed.setIfInBounds i true) (e.put o.dst x) H'
theorem CAny.congr {ef : Env} {Hf : Heap} : ∀ (fuel : Nat) (listed : Array Bool) (e e2 : Env) (H : Heap), (∀ s, e2.get s = e.get s) → CAny P N md ops cls S ef Hf fuel listed e H → CAny P N md ops cls S ef Hf fuel listed e2 H := by
  intro fuel
  induction fuel with
  | zero => intro listed e e2 H he h; exact ⟨h.1, fun s => (he s).trans (h.2.1 s), h.2.2⟩
  | succ fuel ih =>
    intro listed e e2 H he h
    refine ⟨fun h0 => ⟨fun s => (he s).trans ((h.1 h0).1 s), (h.1 h0).2⟩, fun i hi => ?_⟩
    obtain ⟨o, x, H', ho, hs, hk⟩ := h.2 i hi
    exact ⟨o, x, H', ho, hs.agree fun s _ => he s, ih _ _ _ _ (fun s => by rw [Env.put_get, Env.put_get, he s]) hk⟩
theorem CAny.sound {ef : Env} {Hf : Heap} {Q : Exit → Act → World → Prop} : ∀ (fuel : Nat) (listed : Array Bool) (e : Env) (H : Heap), CAny P N md ops cls S ef Hf fuel listed e H →
    ∀ (G : Ghost) (a : Act) (w : World), Rel G H w → EnvRel N H.length G e a →
      (∀ G' a' w', Rel G' Hf w' → EnvRel N Hf.length G' ef a' → Step H.length Hf.length G w G' w' → Q .normal a' w') → wpAny P md ops Q fuel listed a w := by
  intro fuel
  have fin : ∀ {e : Env} {H : Heap}, (∀ s, e.get s = ef.get s) ∧ H = Hf → ∀ (G : Ghost) (a : Act) (w : World), Rel G H w → EnvRel N H.length G e a →
      (∀ G' a' w', Rel G' Hf w' → EnvRel N Hf.length G' ef a' → Step H.length Hf.length G w G' w' → Q .normal a' w') → Q .normal a w := by
    rintro e H ⟨he, rfl⟩ G a w hR hE hQ
    exact hQ G a w hR (hE.weaken fun s => .inr (he s).symm) (Step.refl _ _ _)
  induction fuel with
  | zero => intro listed e H h G a w hR hE hQ; exact ⟨h.1, fin h.2 G a w hR hE hQ⟩
  | succ fuel ih =>
    intro listed e H h G a w hR hE hQ
    refine ⟨fun h0 => fin (h.1 h0) G a w hR hE hQ, fun i hi => ?_⟩
    obtain ⟨o, x, H', ho, hs, hk⟩ := h.2 i hi
    refine hs.step e (fun _ _ => rfl) G a w _ _ hR hE fun G' v w' hR' hv hst => ?_
    exact ih _ _ _ hk G' _ w' hR' ((hE.mono hst.ext).putO hs.dst hv) fun G2 a2 w2 h1 h2 h3 => hQ G2 a2 w2 h1 h2 (hst.trans h3)

theorem CAny.first {ef : Env} {Hf : Heap} {i : Nat} {oi : Oper} {D : List Nat} {x : AV} (hi : ops[i]? = some oi) (hD : Waits md ops i D) :
    ∀ (fuel : Nat) (listed : Array Bool) (e : Env) (H H' : Heap), (∀ j ∈ D, listed.getD j true = false) →
      (∀ j oj, ops[j]? = some oj → j ≠ i → listed.getD j true = false → j ∉ D → oi.apart ops oj = true ∧ okP (cls i) (cls j) = true) →
      i ∈ Region.ready md ops listed → CStep P N ops cls S i oi e H x H' →
      CAny P N md ops cls S ef Hf fuel (listed.setIfInBounds i true) (e.put oi.dst x) H' → CAny P N md ops cls S ef Hf (fuel + 1) listed e H := by
  intro fuel
  induction fuel with
  | zero =>
    intro listed e H H' _ _ hr hs hA
    refine ⟨fun h => (by rw [h] at hr; cases hr), fun j hj => ?_⟩
    by_cases hji : j = i
    · subst hji; exact ⟨oi, x, H', hi, hs, hA⟩
    · have := ready_mono hj hji
      rw [hA.1] at this
      cases this
  | succ fuel ih =>
    intro listed e H H' hun hfree hr hs hA
    refine ⟨fun h => (by rw [h] at hr; cases hr), fun j hj => ?_⟩
    by_cases hji : j = i
    · subst hji; exact ⟨oi, x, H', hi, hs, hA⟩
    · obtain ⟨oj, y, H2, hoj, hsj, hk⟩ := hA.2 j (ready_mono hj hji)
      obtain ⟨hjun, oj', hoj', hall⟩ := mem_ready.1 hj
      rw [hoj] at hoj'
      cases hoj'
      have hiun : listed.getD i false = false := by
        have h0 := (mem_ready.1 hr).1
        rcases Nat.lt_or_ge i listed.size with h' | h'
        · simp [h'] at h0 ⊢; exact h0
        · simp [Array.getElem?_eq_none h'] at h0
      have hjD : j ∉ D := by
        intro hjd
        obtain ⟨o', ho', ed, hed, hb, hon⟩ := hD.on j hjd
        rw [hoj] at ho'
        cases ho'
        have h1 := hall ed hed hb
        rcases hon with hon | hon
        · rw [hon, hiun] at h1; cases h1
        · have h2 := hun _ hon
          rcases Nat.lt_or_ge ed.on listed.size with h' | h'
          · simp [h'] at h1 h2; rw [h1] at h2; cases h2
          · simp [Array.getElem?_eq_none h'] at h2
      obtain ⟨hap, hld⟩ := hfree j oj hoj hji hjun hjD
      obtain ⟨a1, a2, a3⟩ := Oper.apart_spec hap
      have eqj : ∀ s ∈ oj.looksAt ops, e.get s = (e.put oi.dst x).get s := fun s hs' => by
        rw [Env.put_get, if_neg (fun k => a1 s k hs')]
      have eqi : ∀ s ∈ oi.looksAt ops, (e.put oj.dst y).get s = e.get s := fun s hs' => by
        rw [Env.put_get, if_neg (fun k => a3 s k hs')]
      have comm : ∀ s, ((e.put oj.dst y).put oi.dst x).get s = ((e.put oi.dst x).put oj.dst y).get s := fun s => by
        simp only [Env.put_get]
        by_cases h1 : oi.dst = some s
        · rw [if_pos h1, if_pos h1, if_neg (a2 s h1)]
        · rw [if_neg h1, if_neg h1]
      have hun' : ∀ j' ∈ D, (listed.setIfInBounds j true).getD j' true = false := fun j' hj' => by
        have hne : j ≠ j' := fun k => by subst k; exact hjD hj'
        rw [getD_set_ne true hne]; exact hun j' hj'
      have hfree' : ∀ k ok, ops[k]? = some ok → k ≠ i → (listed.setIfInBounds j true).getD k true = false → k ∉ D → oi.apart ops ok = true ∧ okP (cls i) (cls k) = true := fun k ok hk' hki hun2 hkD => by
        refine hfree k ok hk' hki ?_ hkD
        by_cases hjk : j = k
        · subst hjk; exact hjun
        · rw [getD_set_ne true hjk] at hun2; exact hun2
      have hcomm : (listed.setIfInBounds i true).setIfInBounds j true = (listed.setIfInBounds j true).setIfInBounds i true := Array.setIfInBounds_comm _ _ (fun k => hji k.symm)
      rcases okP_spec hld with hli | hlj | ⟨hli, hlj⟩ | ⟨hli, hlj⟩ | ⟨hli, hlj⟩
      · obtain ⟨rfl, hq⟩ := hs.quiet hli
        refine ⟨oj, y, H2, hoj, hsj.agree eqj, ih (listed.setIfInBounds j true) (e.put oj.dst y) H2 H2 hun' hfree' (ready_mono hr (Ne.symm hji)) ?_ ?_⟩
        · exact ⟨hs.dst, (hq H2).agree eqi, fun _ => ⟨rfl, fun H3 => (hq H3).agree eqi⟩, fun _ => rfl, fun _ => ⟨rfl, fun H3 _ => (hq H3).agree eqi⟩, (fun h4 => by rw [hli] at h4; cases h4)⟩
        · rw [← hcomm]
          exact CAny.congr _ _ _ _ _ comm hk
      · obtain ⟨rfl, hq⟩ := hsj.quiet hlj
        refine ⟨oj, y, H, hoj, ⟨hsj.dst, (hq H).agree eqj, fun _ => ⟨rfl, fun H3 => (hq H3).agree eqj⟩, fun _ => rfl, fun _ => ⟨rfl, fun H3 _ => (hq H3).agree eqj⟩, (fun h4 => by rw [hlj] at h4; cases h4)⟩, ih (listed.setIfInBounds j true) (e.put oj.dst y) H H2 hun' hfree' (ready_mono hr (Ne.symm hji)) (hs.agree eqi) ?_⟩
        rw [← hcomm]
        exact CAny.congr _ _ _ _ _ comm hk
      · have h1 : H' = H := by rcases hli with hli | hli; exact hs.reads hli; exact (hs.stable hli).1
        subst h1
        have h2 : H2 = H' := by rcases hlj with hlj | hlj; exact hsj.reads hlj; exact (hsj.stable hlj).1
        subst h2
        refine ⟨oj, y, H2, hoj, hsj.agree eqj, ih (listed.setIfInBounds j true) (e.put oj.dst y) H2 H2 hun' hfree' (ready_mono hr (Ne.symm hji)) (hs.agree eqi) ?_⟩
        rw [← hcomm]
        exact CAny.congr _ _ _ _ _ comm hk
      · obtain ⟨rfl, hq⟩ := hs.stable hli
        refine ⟨oj, y, H2, hoj, hsj.agree eqj, ih (listed.setIfInBounds j true) (e.put oj.dst y) H2 H2 hun' hfree' (ready_mono hr (Ne.symm hji)) ?_ ?_⟩
        · exact ⟨hs.dst, (hq H2 (hsj.held hlj).2).agree eqi, (fun h4 => by rw [hli] at h4; cases h4), fun _ => rfl, fun _ => ⟨rfl, fun H3 h3 => (hq H3 h3).agree eqi⟩, (fun h4 => by rw [hli] at h4; cases h4)⟩
        · rw [← hcomm]
          exact CAny.congr _ _ _ _ _ comm hk
      · obtain ⟨rfl, hq⟩ := hsj.stable hlj
        refine ⟨oj, y, H, hoj, ⟨hsj.dst, (hq H (hs.held hli).1).agree eqj, (fun h4 => by rw [hlj] at h4; cases h4), fun _ => rfl, fun _ => ⟨rfl, fun H3 h3 => (hq H3 h3).agree eqj⟩, (fun h4 => by rw [hlj] at h4; cases h4)⟩, ih (listed.setIfInBounds j true) (e.put oj.dst y) H H2 hun' hfree' (ready_mono hr (Ne.symm hji)) (hs.agree eqi) ?_⟩
        rw [← hcomm]
        exact CAny.congr _ _ _ _ _ comm hk

def freeC (ops : Array Oper) (cls : Nat → Nat) (listed : Array Bool) (k : Nat) (D : List Nat) : Bool :=
  (D.all fun j => !listed.getD j true) && (List.range ops.size).all fun j => j == k || listed.getD j true || D.contains j ||
    (((ops[k]?).bind fun x => (ops[j]?).map fun y => x.apart ops y).getD false && okP (cls k) (cls j))
theorem freeC_spec {k : Nat} {ok : Oper} {listed : Array Bool} {D : List Nat} (hk : ops[k]? = some ok) (h : freeC ops cls listed k D = true) :
    (∀ j ∈ D, listed.getD j true = false) ∧ ∀ j oj, ops[j]? = some oj → j ≠ k → listed.getD j true = false → j ∉ D → ok.apart ops oj = true ∧ okP (cls k) (cls j) = true := by
  simp only [freeC, Bool.and_eq_true, List.all_eq_true] at h
  refine ⟨fun j hj => by simpa using h.1 j hj, fun j oj hj hne hun hD => ?_⟩
  have hlt : j < ops.size := (Array.getElem?_eq_some_iff.1 hj).1
  have := h.2 j (List.mem_range.2 hlt)
  simp only [Bool.or_eq_true, Bool.and_eq_true, beq_iff_eq, List.contains_iff_mem, hk, hj, Option.bind_some, Option.map_some, Option.getD_some, Bool.not_eq_true', Bool.and_eq_false_iff] at this
  rcases this with ((h1 | h1) | h1) | ⟨h1, h2⟩
  · exact absurd h1 hne
  · rw [hun] at h1; cases h1
  · exact absurd h1 hD
  · exact ⟨h1, h2⟩
def tameCFrom (md : Region.Mode) (ops : Array Oper) (cls : Nat → Nat) : Nat → Nat → Array Bool → Bool
  | 0, _, listed => (Region.ready md ops listed).isEmpty
  | fuel + 1, k, listed => (Region.ready md ops listed).contains k && waitsB md ops k (waitsOf md ops k) && freeC ops cls listed k (waitsOf md ops k) && tameCFrom md ops cls fuel (k + 1) (listed.setIfInBounds k true)
/-- May a region's order be taken as it is listed? -/
def tameC (ops : Array Oper) (cls : Nat → Nat) : Bool := tameCFrom .any ops cls ops.size 0 (Array.replicate ops.size false)

/-- The listed order. -/
def TrC (P : Program) (N : Fr) (ops : Array Oper) (cls : Nat → Nat) (S : Heap → Prop) (ef : Env) (Hf : Heap) : List Oper → Nat → Env → Heap → Prop
  | [], _, e, H => e = ef ∧ H = Hf
  | o :: rest, k, e, H => ∃ x H', CStep P N ops cls S k o e H x H' ∧ TrC P N ops cls S ef Hf rest (k + 1) (e.put o.dst x) H'
theorem CAny.listed {ef : Env} {Hf : Heap} : ∀ (l : List Oper) (k : Nat) (listed : Array Bool) (e : Env) (H : Heap), (∀ j, l[j]? = ops[k + j]?) →
    tameCFrom md ops cls l.length k listed = true → TrC P N ops cls S ef Hf l k e H → CAny P N md ops cls S ef Hf l.length listed e H
  | [], _, _, _, _, _, hB, h => ⟨by simpa [tameCFrom] using hB, fun s => by rw [h.1], h.2⟩
  | o :: l, k, listed, e, H, hl, hB, h => by
    have h0 : ops[k]? = some o := by simpa using (hl 0).symm
    simp only [List.length_cons, tameCFrom, Bool.and_eq_true] at hB
    obtain ⟨⟨⟨hr, hw⟩, hf⟩, hB'⟩ := hB
    obtain ⟨x, H', hs, hk⟩ := h
    obtain ⟨f1, f2⟩ := freeC_spec h0 hf
    exact CAny.first h0 (waitsB_spec hw) l.length listed e H H' f1 f2 (by simpa using hr) hs
      (CAny.listed l (k + 1) _ _ _ (fun j => by have := hl (j + 1); simpa [Nat.add_assoc, Nat.add_comm 1 j] using this) hB' hk)
theorem awp_drawnC {id : Nat} {l : List Oper} {e ef : Env} {H Hf : Heap} {Q : Post} (hm : P.follows .mixedOrders = true) (hB : tameC l.toArray cls = true) (h : TrC P N l.toArray cls S ef Hf l 0 e H) (k : Q .normal ef Hf) : AWP P N (.region id l.toArray true) e H Q := by
  intro G a w hR hE
  refine wp_region_any hm ?_
  have hA := CAny.listed (md := .any) l 0 (Array.replicate l.length false) e H (by simp) (by simpa [tameC] using hB) h
  have hR' : Rel G H { w with drawn := w.drawn + 1 } := hR.drawn rfl
  have := CAny.sound (Q := Holds N G H.length w Q) _ _ _ _ hA G a { w with drawn := w.drawn + 1 } hR' hE fun G' a' w' h1 h2 h3 =>
    ⟨.normal, ef, Hf, G', trivial, k, h1, h2, ⟨h3.ext, h3.os, h3.tape, h3.output, h3.size⟩⟩
  simpa using this

end Go.Ab
end
