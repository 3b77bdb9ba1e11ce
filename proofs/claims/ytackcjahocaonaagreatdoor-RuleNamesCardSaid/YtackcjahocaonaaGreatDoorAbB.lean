/- A part of a proof: rules for reading Go code as code over plain values, and what follows for this program. Its conditions stand in each statement. -/
import Derived.Test.YtackcjahocaonaaGreatDoorAbA
import Derived.Laws.Append
section
set_option linter.unusedSimpArgs false
set_option linter.unusedVariables false
namespace Go.Ab
variable {P : Program} {o : Oper} {e : Env} {H : Heap}

/-! ### What a slice's elements are -/
/-- The elements that a slice (or a string) has. -/
def elemsOf (H : Heap) : AV → Option (List AV)
  | .nilS | .zS => some []
  | .lst xs => some xs
  | .view id g off len => if len = 0 then some [] else match H[id]? with
    | some (.row _ g' _ xs) => if g = g' ∧ off + len ≤ xs.length then some ((xs.drop off).take len) else none
    | _ => none
  | .str s => some (s.map fun b => .int .u8 b.toNat)
  | _ => none
/-- The row of cells that the elements are. -/
theorem run_firstCells {G : Ghost} {w : World} (hR : Rel G H w) {x : AV} {v : Value} (hv : V H.length G x v) {ys : List AV} (hx : elemsOf H x = some ys) {size : Nat} (hn : ∀ y ∈ ys, y.nc = size) :
    (Builtin.lenOf v).run P w = .ok ys.length w ∧ ∃ arr, (Builtin.firstCells size ys.length v).run P w = .ok arr w ∧ arr.size = ys.length * size ∧ Vrow H.length G size ys arr 0 := by
  have key : ∀ (b q s' : Nat) (c : Array Value) (t : TypeId) (fr : Nat × Nat) (l cap : Nat), w.heap[b]? = some (.cells c t fr) → Vrow H.length G s' ys c q → v = .slice (some ⟨b, q, none⟩) l cap → l = ys.length →
      (Builtin.lenOf v).run P w = .ok ys.length w ∧ ∃ arr, (Builtin.firstCells size ys.length v).run P w = .ok arr w ∧ arr.size = ys.length * size ∧ Vrow H.length G size ys arr 0 := by
    intro b q s' c t fr l cap hw hr hv hl
    subst hv hl
    refine ⟨rfl, ?_⟩
    rcases Nat.eq_zero_or_pos ys.length with h0 | h0
    · refine ⟨#[], ?_, by simp [h0], ?_⟩
      · simp only [Builtin.firstCells, loadCells, h0, Nat.zero_mul, loadCellsFrom, pure, Sem.run]
      · rw [List.eq_nil_of_length_eq_zero h0]; simp only [Vrow]
    · have hs : s' = size := by
        have := (Vrow_get hr (List.getElem?_eq_getElem h0)).1
        rw [← this]; exact hn _ (List.getElem_mem h0)
      subst hs
      have hfit : 0 < ys.length * s' → q + ys.length * s' ≤ c.size := by
        intro hpos
        have hs : 0 < s' := by
          rcases Nat.eq_zero_or_pos s' with h | h
          · rw [h] at hpos; simp at hpos
          · exact h
        obtain ⟨hn', hc⟩ := Vrow_get hr (i := ys.length - 1) (List.getElem?_eq_getElem (by omega))
        have := Vcells_size hc (by rw [← AV.nc_eq, hn']; exact hs)
        rw [← AV.nc_eq, hn'] at this
        have e : (ys.length - 1) * s' + s' = ys.length * s' := by rw [← Nat.succ_mul]; congr 1; omega
        omega
      refine ⟨_, by rw [Builtin.firstCells, loadCells, run_loadCellsFrom hw _ _ _ (fun h => by have := hfit h; omega)], ?_, ?_⟩
      · simp only [Nat.add_zero, Array.size_append, Array.size_extract]
        rcases Nat.eq_zero_or_pos (ys.length * s') with h | h
        · simp [h]; omega
        · have := hfit h; simp; omega
      · refine Vrow_of fun i y hy => ?_
        obtain ⟨hn', hc⟩ := Vrow_get hr hy
        refine ⟨hn', Vcells_of fun j z hz => ?_⟩
        obtain ⟨u, hu, k⟩ := Vcells_get hc hz
        refine ⟨u, ?_, k⟩
        have hi : i < ys.length := by rw [List.getElem?_eq_some_iff] at hy; exact hy.1
        have hj : j < s' := by rw [← hn', AV.nc_eq]; rw [List.getElem?_eq_some_iff] at hz; exact hz.1
        have h3 : (i + 1) * s' ≤ ys.length * s' := Nat.mul_le_mul_right _ hi
        rw [Nat.succ_mul] at h3
        have := hfit (by omega)
        simp only [Nat.add_zero, Nat.zero_add, Array.empty_append]
        rw [Array.getElem?_extract, if_pos (by omega), ← hu]
        congr 1
        omega
  cases x <;> simp only [elemsOf, reduceCtorEq, Option.some.injEq] at hx
  · -- str
    rename_i s
    subst hx
    simp only [V] at hv
    subst hv
    have hl : (s.map fun b : UInt8 => AV.int .u8 b.toNat).length = (ba s).size := by rw [List.length_map, ba_size]
    have hx : ((ba s).extract 0 (ba s).size).size = (ba s).size := by rw [ByteArray.size_extract]; omega
    have hx' : ((ba s).extract 0 (ba s).size).data.size = (ba s).size := hx
    refine ⟨by rw [hl]; rfl, _, rfl, ?_, ?_⟩
    · rw [hl]
      rcases Nat.eq_zero_or_pos (ba s).size with h | h
      · rw [Array.size_map, hx', h, Nat.zero_mul]
      · have : size = 1 := by
          have h0 : 0 < (s.map fun b : UInt8 => AV.int .u8 b.toNat).length := by omega
          rw [← hn _ (List.getElem_mem h0)]
          simp [AV.nc]
        subst this
        rw [Array.size_map, hx', Nat.mul_one]
    · refine Vrow_of fun i y hy => ?_
      have hmem := List.mem_of_getElem? hy
      have hn' := hn y hmem
      rw [List.getElem?_map, Option.map_eq_some_iff] at hy
      obtain ⟨b, hb, rfl⟩ := hy
      refine ⟨hn', ?_⟩
      simp only [AV.nc] at hn'
      subst hn'
      simp only [AV.cells, Vcells, V, and_true]
      refine ⟨.int .u8 b.toNat, ?_, rfl⟩
      rw [hl]
      simp only [Nat.mul_one, Nat.zero_add]
      have hb' : (ba s).data[i]? = some b := by simpa [ba] using hb
      have : ((ba s).extract 0 (ba s).size).data[i]? = some b := by
        rw [ByteArray.data_extract, Array.getElem?_extract]
        have hlt : i < (ba s).data.size := by rw [Array.getElem?_eq_some_iff] at hb'; exact hb'.1
        simp only [ByteArray.size]
        rw [if_pos (by omega)]
        simpa using hb'
      rw [Array.getElem?_map, this]
      rfl
  · -- nilS
    subst hx
    simp only [V] at hv
    subst hv
    exact ⟨rfl, #[], rfl, by simp, by simp only [Vrow]⟩
  · -- zS
    subst hx
    simp only [V] at hv
    obtain ⟨a, rfl⟩ := hv
    refine ⟨rfl, #[], ?_, by simp, by simp only [Vrow]⟩
    simp only [Builtin.firstCells, List.length_nil, loadCells, Nat.zero_mul, loadCellsFrom, pure, Sem.run]
  · -- lst
    subst hx
    simp only [V] at hv
    rcases hv with ⟨rfl, e⟩ | ⟨b, q, cap, c, t, fr, s', e, _, hs, hr⟩
    · subst e
      exact ⟨rfl, #[], rfl, by simp, by simp only [Vrow]⟩
    · exact key b q s' c t fr _ cap (hR.snap _ _ hs) hr e rfl
  · -- view
    rename_i id g off len
    split at hx
    · rename_i h0
      subst h0
      cases hx
      simp only [V] at hv
      obtain ⟨_, _, ad, cap, e, _⟩ := hv
      subst e
      refine ⟨rfl, #[], ?_, by simp, by simp only [Vrow]⟩
      cases ad with
      | none => rfl
      | some ad => simp only [Builtin.firstCells, List.length_nil, loadCells, Nat.zero_mul, loadCellsFrom, pure, Sem.run]
    cases hH : H[id]? with
    | none => rw [hH] at hx; cases hx
    | some oj =>
      rw [hH] at hx
      cases oj <;> simp only [reduceCtorEq] at hx
      rename_i ty g' sz xs
      split at hx
      · rename_i hc
        obtain ⟨rfl, hle⟩ := hc
        cases hx
        simp only [V] at hv
        obtain ⟨hid, hg, ad, cap, e, hlen, hcur⟩ := hv
        obtain ⟨hg', hfx, hsz, hrow⟩ := hR.obj id _ hH
        have hl : ((xs.drop off).take len).length = len := by rw [List.length_take, List.length_drop]; omega
        rcases hcur hg'.symm with ⟨hnil, rfl, rfl, rfl⟩ | ⟨hnil, rfl, hroom⟩
        · subst e
          rw [hl]
          exact ⟨rfl, #[], rfl, by simp, by simp only [List.take_zero, Vrow]⟩
        · rcases hrow with ⟨h2, _⟩ | ⟨_, c, hw, hcs, hroom', hr⟩
          · rw [h2] at hnil; cases hnil
          refine key _ _ (G.loc id).size c _ _ len cap hw ?_ e hl.symm
          refine Vrow_of fun i y hy => ?_
          rw [List.getElem?_take] at hy
          split at hy
          · rw [List.getElem?_drop] at hy
            have := Vrow_get hr hy
            rwa [Nat.add_mul, ← Nat.add_assoc] at this
          · cases hy
      · cases hx


/-! ### append onto a row of one's own -/
def Loc.moved (b size room : Nat) (gen : Nat) : Loc := { block := b, base := 0, gen, size, room, isNil := false, fixed := false }
theorem zeroCells_size (z : Array Value) (n : Nat) : (Builtin.zeroCells z n).size = n * z.size := by simp only [Builtin.zeroCells, Array.size_map, Array.size_range]
theorem bindRun {α β : Type} (P : Program) (s : Sem α) (f : α → Sem β) (w : World) : (s >>= f).run P w = match s.run P w with | .ok a w' => (f a).run P w' | .halt h w' => .halt h w' := run_bind P s f w
theorem pureRun {α : Type} (P : Program) (a : α) (w : World) : (pure a : Sem α).run P w = .ok a w := rfl
theorem iteRun {α : Type} (P : Program) (c : Prop) [Decidable c] (s t : Sem α) (w : World) : (if c then s else t).run P w = if c then s.run P w else t.run P w := by split <;> rfl
theorem Ext.put {G : Ghost} {n id : Nat} {L : Loc} (hf : (G.loc id).fixed = false) (hg : (G.loc id).gen < L.gen) : Ext n n G (G.put id L) where
  le := Nat.le_refl _
  snap _ _ h := h
  gen j hj := by
    by_cases e : j = id
    · subst e; rw [Ghost.put_same]; omega
    · rw [Ghost.put_other _ _ e]; exact Nat.le_refl _
  same j hj h := by
    by_cases e : j = id
    · subst e; rw [Ghost.put_same] at h; omega
    · rw [Ghost.put_other _ _ e]
  born _ _ _ _ h := h
  fixed j hj h := by
    by_cases e : j = id
    · subst e; rw [hf] at h; cases h
    · rw [Ghost.put_other _ _ e]

section
variable {w : World} {t1 t2 ty el : TypeId} {s x : Value} {a : Option Addr} {len cap n size : Nat} {arr old : Array Value}
theorem under_src (ht2 : (P.ti t2).d = .string ∨ ∃ q, (P.ti t2).d = .slice q) : ∃ u2, P.underlying t2 = some u2 ∧ (u2 = .string ∨ ∃ q, u2 = .slice q) := by
  rcases ht2 with h | ⟨q, h⟩
  · exact ⟨_, under_string h, .inl rfl⟩
  · exact ⟨_, under_slice h, .inr ⟨q, rfl⟩⟩
theorem run_append_room (ht : (P.ti t1).d = .slice el) (ht2 : (P.ti t2).d = .string ∨ ∃ q, (P.ti t2).d = .slice q) (hel : (P.ti el).d ≠ .bad) (hsz : (P.ti el).size = size)
    (hs : s = .slice a len cap) (hx1 : (Builtin.lenOf x).run P w = .ok n w) (hx2 : (Builtin.firstCells size n x).run P w = .ok arr w) (hroom : len + n ≤ cap) :
    (Builtin.append_ #[t1, t2] ty #[s, x]).run P w = (match a with
        | some ad => match (storeCells (ad.add (len * size)) arr.toList).run P w with
          | .ok _ w' => .ok (.slice a (len + n) cap) w'
          | .halt h w' => .halt h w'
        | none => .ok (.slice a (len + n) cap) w) := by
  subst hs
  obtain ⟨u2, hu2, hint⟩ := under_src ht2
  have hsize : ∀ w : World, (sizeOf el).run P w = .ok size w := fun w => by rw [run_sizeOf hel, hsz]
  rcases hint with rfl | ⟨q, rfl⟩
  all_goals
    simp only [Builtin.append_, List.getElem?_toArray, List.getElem?_cons_zero, List.getElem?_cons_succ, bindRun, pureRun, run_underlying (under_slice ht), hsize, run_underlying hu2, Bool.false_eq_true, if_false, hx1, iteRun, if_pos hroom, Bool.not_false, if_true, hx2]
    cases a with
    | none => rfl
    | some ad =>
      simp only [bindRun]
      cases (storeCells (ad.add (len * size)) arr.toList).run P w <;> rfl
theorem run_append_grow (ht : (P.ti t1).d = .slice el) (ht2 : (P.ti t2).d = .string ∨ ∃ q, (P.ti t2).d = .slice q) (hel : (P.ti el).d ≠ .bad) (hsz : (P.ti el).size = size) (hz : (P.ti el).zero.solid = true) (hzn : (P.ti el).zero.nc = size) (hby : 0 < (P.ti el).bytes)
    (hs : s = .slice a len cap) (hx1 : (Builtin.lenOf x).run P w = .ok n w) (hx2 : (Builtin.firstCells size n x).run P { w with drawn := w.drawn + 1 } = .ok arr { w with drawn := w.drawn + 1 })
    (hold : (Builtin.firstCells size len s).run P { w with drawn := w.drawn + 1 } = .ok old { w with drawn := w.drawn + 1 }) (hgrow : cap < len + n) (hb : (len + n) * (P.ti el).bytes ≤ 140737488355328) :
    ∃ newCap rest, len + n ≤ newCap ∧ rest.size = (newCap - (len + n)) * size ∧ (Builtin.append_ #[t1, t2] ty #[s, x]).run P w =
      .ok (.slice (some ⟨w.heap.size, 0, none⟩) (len + n) newCap) { w with heap := w.heap.push (.cells (old ++ arr ++ rest) el), drawn := w.drawn + 1 } := by
  subst hs
  obtain ⟨u2, hu2, hint⟩ := under_src ht2
  obtain ⟨i, hi, his, hib⟩ := ti_info hel
  have hnj : (P.ti el).zero ≠ .junk := by intro k; rw [k] at hz; cases hz
  obtain ⟨z', hz1, hz2⟩ := run_zero hnj { w with drawn := w.drawn + 1 }
  have hzc : z'.cells.size = size := by
    have hV : V 0 ⟨fun _ => none, fun _ => Loc.var 0, fun _ _ => none⟩ (P.ti el).zero z' := by rw [hz2]; exact V_ofVal _ _ _ _
    rw [(V_cells hV (AV.solid_or hz)).1, hzn]
  have hsize : ∀ w : World, (sizeOf el).run P w = .ok size w := fun w => by rw [run_sizeOf hel, hsz]
  have hfit := growslice_fits (bytes := (P.ti el).bytes) hgrow hb
  have hneed : len + n ≤ 140737488355328 := Nat.le_trans (Nat.le_mul_of_pos_right _ hby) hb
  rw [hib] at hfit hby
  have hmax : ¬ (((len + n : Nat) : Int) > IntKind.i64.max) := by
    simp only [IntKind.max, IntKind.signed, IntKind.bits, if_true]
    omega
  have hask : ∀ (b : Nat) (w : World), (askRoom b).run P w = .ok () w := by
    intro b w
    unfold askRoom
    split <;> rfl
  let q : Question := .appendCap (len + n) cap el
  refine ⟨q.cut (w.tape w.drawn q), Builtin.zeroCells z'.cells (q.cut (w.tape w.drawn q) - (len + n)), by simp [q, Question.cut], by rw [zeroCells_size, hzc], ?_⟩
  rcases hint with rfl | ⟨q', rfl⟩
  all_goals
    simp only [Builtin.append_, List.getElem?_toArray, List.getElem?_cons_zero, List.getElem?_cons_succ, bindRun, pureRun, run_underlying (under_slice ht), hsize, run_underlying hu2, Bool.false_eq_true, if_false, hx1, iteRun, if_neg (Nat.not_le.2 hgrow), Bool.not_false, if_true, run_typeInfo hi, hmax, false_and, if_neg (Nat.not_lt.2 hfit), choose, Sem.run, Question.forced, hask, hx2, hold, hz1]
    rfl
end

theorem Vcells_congr {n : Nat} {G : Ghost} {l : List AV} {c c' : Array Value} {q q' : Nat} (h : Vcells n G l c q) (he : ∀ j, j < l.length → c'[q' + j]? = c[q + j]?) : Vcells n G l c' q' := Vcells_of fun i x hx => by
  obtain ⟨v, hv, k⟩ := Vcells_get h hx
  exact ⟨v, by rw [he i (by rw [List.getElem?_eq_some_iff] at hx; exact hx.1)]; exact hv, k⟩
theorem Vrow_congr {n : Nat} {G : Ghost} {size : Nat} {l : List AV} {c c' : Array Value} {q q' : Nat} (h : Vrow n G size l c q) (he : ∀ j, j < l.length * size → c'[q' + j]? = c[q + j]?) : Vrow n G size l c' q' := Vrow_of fun i x hx => by
  obtain ⟨hn, hc⟩ := Vrow_get h hx
  have hi : i < l.length := by rw [List.getElem?_eq_some_iff] at hx; exact hx.1
  have h3 : (i + 1) * size ≤ l.length * size := Nat.mul_le_mul_right _ hi
  rw [Nat.succ_mul] at h3
  refine ⟨hn, Vcells_congr hc fun j hj => ?_⟩
  rw [← AV.nc_eq, hn] at hj
  rw [Nat.add_assoc, Nat.add_assoc]
  exact he _ (by omega)
theorem Vrow_isOne {n : Nat} {G : Ghost} {size : Nat} {l : List AV} {c : Array Value} (h : Vrow n G size l c 0) (hs : c.size = l.length * size) (hone : ∀ z ∈ l, z.solid = true) : ∀ v ∈ c.toList, isOne v = true := by
  intro v hv
  obtain ⟨j, hj⟩ := List.getElem?_of_mem hv
  have hlt : j < l.length * size := by
    rw [List.getElem?_eq_some_iff] at hj
    obtain ⟨h1, _⟩ := hj
    simp at h1
    omega
  have hpos : 0 < size := by
    rcases Nat.eq_zero_or_pos size with h0 | h0
    · rw [h0] at hlt; simp at hlt
    · exact h0
  have hi : j / size < l.length := by rw [Nat.div_lt_iff_lt_mul hpos]; exact hlt
  obtain ⟨hn, hc⟩ := Vrow_get h (List.getElem?_eq_getElem hi)
  have hk : j % size < (l[j / size]).cells.length := by rw [← AV.nc_eq, hn]; exact Nat.mod_lt _ hpos
  obtain ⟨u, hu, k⟩ := Vcells_get hc (List.getElem?_eq_getElem hk)
  rw [Nat.zero_add, Nat.mul_comm, Nat.div_add_mod] at hu
  have : u = v := by
    have e : c[j]? = some v := by simpa using hj
    rw [e] at hu
    exact (Option.some.inj hu).symm
  subst this
  exact oneCell_of k (AV.solid_one (hone _ (List.getElem_mem hi)) _ (List.getElem_mem hk))

/-- append onto a row of one's own, in place or anew. -/
theorem run_append_view {s x : Operand} {t1 t2 el : TypeId} {id g sz off len : Nat} {xs ys : List AV} {y : AV} {G : Ghost} {a : Act} {w : World} (ho : o.op = .call { callee := .builtin .append, args := #[s, x], argTypes := #[t1, t2] })
    (hR : Rel G H w) (hvs : V H.length G (.view id g off len) (a.eval s)) (h' : V H.length G y (a.eval x)) (hy : elemsOf H y = some ys) (hH : H[id]? = some (.row el g sz xs)) (hfit : off + len ≤ xs.length)
    (ht : (P.ti t1).d = .slice el) (ht2 : (P.ti t2).d = .string ∨ ∃ q, (P.ti t2).d = .slice q) (hel : (P.ti el).d ≠ .bad) (hsz : (P.ti el).size = sz) (hz : (P.ti el).zero.solid = true) (hzn : (P.ti el).zero.nc = sz) (hby : 0 < (P.ti el).bytes)
    (hyn : ∀ z ∈ ys, z.nc = sz) (hys : ∀ z ∈ ys, z.solid = true) (hb : (len + ys.length) * (P.ti el).bytes ≤ 140737488355328) :
    ∃ r v w' G', (execOp a.eval o).run P w = .ok r w' ∧ (r = .value v ∨ (r = .skip ∧ v = undef)) ∧ V (H.set id (.row el (g + 1) sz ((xs.drop off).take len ++ ys))).length G' (.view id (g + 1) 0 (len + ys.length)) v ∧ Rel G' (H.set id (.row el (g + 1) sz ((xs.drop off).take len ++ ys))) w' ∧ Step H.length (H.set id (.row el (g + 1) sz ((xs.drop off).take len ++ ys))).length G w G' w' := by
  have h := hvs
  simp only [V] at h
  obtain ⟨hid, hg, ad, cap, hv, hlen, hcur⟩ := h
  obtain ⟨hg', hfx, hsz', hrow⟩ := hR.obj id _ hH
  have hcur := hcur hg'.symm
  have hl : ((xs.drop off).take len).length = len := by rw [List.length_take, List.length_drop]; omega
  have hgen : (G.loc id).gen < g + 1 := by omega
  have hrun : ∀ w' v, (Builtin.append_ #[t1, t2] o.type #[a.eval s, a.eval x]).run P w = .ok v w' → (execOp a.eval o).run P w = .ok (.value v) w' := by
    intro w' v hr
    simp only [execOp, ho, resolve, bindRun, pureRun, invoke, builtin, List.map_toArray, List.map_cons, List.map_nil, hr]
  obtain ⟨hx1, arr0, hx2, has, har⟩ := run_firstCells (P := P) hR h' hy hyn
  by_cases hroom : len + ys.length ≤ cap
  · rcases hcur with ⟨hnil, rfl, rfl, rfl⟩ | ⟨hnil, rfl, hroomc⟩
    · -- nothing onto nothing
      have hy0 : ys = [] := List.eq_nil_of_length_eq_zero (by omega)
      subst hy0
      have hr := run_append_room (ty := o.type) ht ht2 hel hsz hv hx1 hx2 hroom
      let L : Loc := { G.loc id with gen := g + 1 }
      have hRp := hR.put (w' := w) id _ (.row el (g + 1) sz ((xs.drop off).take 0 ++ [])) L hH (Ext.put hfx hgen) (Nat.le_refl _) (fun hon => by simp [owns, L, hnil] at hon) (fun _ _ _ => rfl) ⟨rfl, rfl, rfl⟩
        ⟨rfl, hfx, hsz', .inl ⟨hnil, by simp⟩⟩
      refine ⟨_, _, w, _, hrun w _ hr, .inl rfl, ?_, hRp⟩
      simp only [V, List.length_set, Ghost.put_same]
      exact ⟨hid, Nat.le_refl _, none, 0, rfl, by simp, fun _ => .inl ⟨hnil, rfl, by simp, rfl⟩⟩
    · -- in place
      rcases hrow with ⟨h2, _⟩ | ⟨_, c, hw, hcs, hroom', hr⟩
      · rw [h2] at hnil; cases hnil
      have hrun1 := run_append_room (ty := o.type) ht ht2 hel hsz hv hx1 hx2 hroom
      have hone := Vrow_isOne har has hys
      have hbound : (off + cap) * sz = off * sz + cap * sz := Nat.add_mul ..
      have hbound2 : (len + ys.length) * sz ≤ cap * sz := Nat.mul_le_mul_right _ hroom
      rw [Nat.add_mul] at hbound2
      rw [hsz'] at hroomc hroom' hr
      obtain ⟨w', k1, k2, k3, k4, k5, k6, k7⟩ := run_storeCells (P := P) (t := el) ((G.loc id).base + off * sz + len * sz) arr0.toList 0 w c hw (by simp; omega) hone
      simp only [hsz', add_plain, k1] at hrun1
      let L : Loc := { G.loc id with gen := g + 1, base := (G.loc id).base + off * sz }
      have hRp := hR.put (w' := w') id _ (.row el (g + 1) sz ((xs.drop off).take len ++ ys)) L hH (Ext.put hfx hgen) (by omega) (fun hon => .inl ⟨rfl, by simp [owns, hnil]⟩) (fun b _ hne => k3 b (hne (by simp [owns, hnil]))) ⟨k5, k6, k7⟩
        ⟨rfl, hfx, hsz', .inr ⟨hnil, _, k2, by rw [wr_size]; exact hcs, by simp only [L, hsz', List.length_append, hl, Nat.add_mul]; omega, by
          refine Vrow.mono (Ext.put hfx hgen) _ _ _ _ ?_
          simp only [L, hsz', Nat.add_zero]
          rw [Vrow_append, hl]
          constructor
          · have hrd : Vrow H.length G sz ((xs.drop off).take len) c ((G.loc id).base + off * sz) := Vrow_of fun i z hz => by
              rw [List.getElem?_take] at hz
              split at hz
              · rw [List.getElem?_drop] at hz
                have := Vrow_get hr hz
                rwa [Nat.add_mul, ← Nat.add_assoc] at this
              · cases hz
            refine Vrow_congr hrd fun j hj => ?_
            rw [hl] at hj
            rw [wr_get _ _ _ (by simp; omega), if_neg (by omega)]
          · refine Vrow_congr har fun j hj => ?_
            rw [wr_get _ _ _ (by simp; omega), if_pos (by simp; omega)]
            simp⟩⟩
      refine ⟨_, _, w', _, hrun w' _ hrun1, .inl rfl, ?_, hRp⟩
      simp only [V, List.length_set, Ghost.put_same]
      refine ⟨hid, Nat.le_refl _, _, cap, rfl, hroom, fun _ => .inr ⟨hnil, ?_, ?_⟩⟩
      · simp [L, hsz']
      · simp only [L, hsz', Nat.zero_add]; omega
  · -- anew
    have hgrow : cap < len + ys.length := by omega
    have hR1 : Rel G H { w with drawn := w.drawn + 1 } := hR.drawn rfl
    obtain ⟨_, arr, hx2, has, har⟩ := run_firstCells (P := P) hR1 h' hy hyn
    have hel' : elemsOf H (.view id g off len) = some ((xs.drop off).take len) := by
      simp only [elemsOf, hH]
      split
      · rename_i h0; subst h0; simp
      · rw [if_pos ⟨trivial, hfit⟩]
    have hxn : ∀ z ∈ (xs.drop off).take len, z.nc = sz := by
      intro z hz
      have hzx : z ∈ xs := List.mem_of_mem_drop (List.mem_of_mem_take hz)
      rcases hrow with ⟨_, rfl⟩ | ⟨_, c, _, _, _, hr⟩
      · cases hzx
      · obtain ⟨i, hi⟩ := List.getElem?_of_mem hzx
        rw [(Vrow_get hr hi).1, hsz']
    obtain ⟨_, old, hold, hos, hor⟩ := run_firstCells (P := P) hR1 hvs hel' hxn
    rw [hl] at hold hos
    obtain ⟨newCap, rest, hnc, hrs, hrun1⟩ := run_append_grow (ty := o.type) ht ht2 hel hsz hz hzn hby hv hx1 hx2 hold hgrow hb
    let L := Loc.moved w.heap.size sz ((newCap) * sz) (g + 1)
    have hRp := hR.put (w' := { w with heap := w.heap.push (.cells (old ++ arr ++ rest) el), drawn := w.drawn + 1 }) id _ (.row el (g + 1) sz ((xs.drop off).take len ++ ys)) L hH (Ext.put hfx hgen) (by simp) (fun hon => .inr ⟨Nat.le_refl _, by simp [L, Loc.moved]⟩) (fun b hb' _ => heap_push _ _ hb') ⟨rfl, rfl, rfl⟩
      ⟨rfl, rfl, rfl, .inr ⟨rfl, old ++ arr ++ rest, by simp [L, Loc.moved], by
        simp only [L, Loc.moved, Array.size_append, hos, has, hrs]
        rw [← Nat.add_mul, ← Nat.add_mul]
        congr 1
        omega, by
        simp only [L, Loc.moved, Nat.zero_add, List.length_append, hl]
        exact Nat.mul_le_mul_right _ hnc, by
        refine Vrow.mono (Ext.put hfx hgen) _ _ _ _ ?_
        simp only [L, Loc.moved]
        rw [Vrow_append, hl]
        constructor
        · refine Vrow_congr hor fun j hj => ?_
          rw [hl] at hj
          rw [Array.append_assoc, Array.getElem?_append_left (by omega)]
        · refine Vrow_congr har fun j hj => ?_
          rw [Array.getElem?_append_left (by rw [Array.size_append]; omega), Array.getElem?_append_right (by omega)]
          congr 1
          omega⟩⟩
    refine ⟨_, _, _, _, hrun _ _ hrun1, .inl rfl, ?_, hRp⟩
    simp only [V, List.length_set, Ghost.put_same]
    refine ⟨hid, Nat.le_refl _, _, newCap, rfl, hnc, fun _ => .inr ⟨rfl, ?_, ?_⟩⟩
    · simp [L, Loc.moved]
    · simp [L, Loc.moved]

theorem exec_append {s x : Operand} {t1 t2 el : TypeId} {id g sz off len : Nat} {xs ys : List AV} {y : AV} (ho : o.op = .call { callee := .builtin .append, args := #[s, x], argTypes := #[t1, t2] })
    (hs : e.ev s = .view id g off len) (hx : e.ev x = y) (hy : elemsOf H y = some ys) (hH : H[id]? = some (.row el g sz xs)) (hfit : off + len ≤ xs.length)
    (ht : (P.ti t1).d = .slice el) (ht2 : (P.ti t2).d = .string ∨ ∃ q, (P.ti t2).d = .slice q) (hel : (P.ti el).d ≠ .bad) (hsz : (P.ti el).size = sz) (hz : (P.ti el).zero.solid = true) (hzn : (P.ti el).zero.nc = sz) (hby : 0 < (P.ti el).bytes)
    (hyn : ∀ z ∈ ys, z.nc = sz) (hys : ∀ z ∈ ys, z.solid = true) (hb : (len + ys.length) * (P.ti el).bytes ≤ 140737488355328) :
    Exec P o e H (.view id (g + 1) 0 (len + ys.length)) (H.set id (.row el (g + 1) sz ((xs.drop off).take len ++ ys))) := by
  intro N G a w hR hE
  exact run_append_view ho hR (by rw [← hs]; exact hE.ev s) (by rw [← hx]; exact hE.ev x) hy hH hfit ht ht2 hel hsz hz hzn hby hyn hys hb
theorem elemsOf_app {H L : Heap} {y : AV} {ys : List AV} (h : elemsOf H y = some ys) : elemsOf (H ++ L) y = some ys := by
  cases y <;> simp only [elemsOf, reduceCtorEq] at h ⊢ <;> try exact h
  rename_i id g off len
  split at h
  · rename_i h0; rw [if_pos h0]; exact h
  rename_i h0
  rw [if_neg h0]
  cases hH : H[id]? with
  | none => rw [hH] at h; cases h
  | some oj =>
    have : id < H.length := by rw [List.getElem?_eq_some_iff] at hH; exact hH.1
    rw [List.getElem?_append_left this, hH]
    rw [hH] at h
    exact h
/-- Onto nil: a row of one's own. -/
theorem exec_append_nil {s x : Operand} {t1 t2 el : TypeId} {sz : Nat} {ys : List AV} {y : AV} (ho : o.op = .call { callee := .builtin .append, args := #[s, x], argTypes := #[t1, t2] })
    (hs : e.ev s = .nilS) (hx : e.ev x = y) (hy : elemsOf H y = some ys)
    (ht : (P.ti t1).d = .slice el) (ht2 : (P.ti t2).d = .string ∨ ∃ q, (P.ti t2).d = .slice q) (hel : (P.ti el).d ≠ .bad) (hsz : (P.ti el).size = sz) (hz : (P.ti el).zero.solid = true) (hzn : (P.ti el).zero.nc = sz) (hby : 0 < (P.ti el).bytes)
    (hyn : ∀ z ∈ ys, z.nc = sz) (hys : ∀ z ∈ ys, z.solid = true) (hb : ys.length * (P.ti el).bytes ≤ 140737488355328) :
    Exec P o e H (.view H.length 1 0 ys.length) (H ++ [.row el 1 sz ys]) := by
  intro N G a w hR hE
  let L : Loc := { block := 0, base := 0, gen := 0, size := sz, room := 0, isNil := true, fixed := false }
  obtain ⟨hR1, hs1⟩ := hR.push (w' := w) (.row el 0 sz []) L (fun h => by simp [owns, L] at h) (Nat.le_refl _) (fun _ _ => rfl) ⟨rfl, rfl, rfl⟩ ⟨rfl, rfl, rfl, .inl ⟨rfl, rfl⟩⟩
  have hvs : V (H ++ [AObj.row el 0 sz []]).length (G.put H.length L) (.view H.length 0 0 0) (a.eval s) := by
    have h := hE.ev s
    rw [hs] at h
    simp only [V] at h
    simp only [V, List.length_append, List.length_cons, List.length_nil, Ghost.put_same]
    exact ⟨by omega, Nat.le_refl _, none, 0, h, Nat.le_refl _, fun _ => .inl (by simp [L])⟩
  have h' : V (H ++ [AObj.row el 0 sz []]).length (G.put H.length L) y (a.eval x) := by rw [← hx]; exact V.mono hs1.ext _ _ (hE.ev x)
  have hH : (H ++ [AObj.row el 0 sz []])[H.length]? = some (.row el 0 sz []) := by simp
  obtain ⟨r, v, w', G', k1, k2, k3, k4, k5⟩ := run_append_view (P := P) (o := o) ho hR1 hvs h' (elemsOf_app hy) hH (by simp) ht ht2 hel hsz hz hzn hby hyn hys (by simpa using hb)
  have hset : (H ++ [AObj.row el 0 sz []]).set H.length (.row el (0 + 1) sz ((List.drop 0 []).take 0 ++ ys)) = H ++ [.row el 1 sz ys] := by simp
  rw [hset] at k3 k4 k5
  simp only [Nat.zero_add] at k3
  exact ⟨r, v, w', G', k1, k2, k3, k4, hs1.trans k5⟩

end Go.Ab
end
section
set_option linter.unusedSimpArgs false
set_option linter.unusedVariables false
namespace Go.Ab
variable {P : Program} {o : Oper} {e : Env} {H : Heap}

/-! ### make, literals -/
theorem wrap_i64 {n : Int} (h1 : -9223372036854775808 ≤ n) (h2 : n ≤ 9223372036854775807) : IntKind.i64.wrap n = n := by
  have : IntKind.i64.wrap n = if n % 18446744073709551616 ≥ 9223372036854775808 then n % 18446744073709551616 - 18446744073709551616 else n % 18446744073709551616 := by simp [IntKind.wrap, IntKind.bits, IntKind.signed]
  rw [this]
  split <;> omega
theorem madeCells_get (z : Array Value) (m i j : Nat) (hj : j < z.size) (hi : i < m) : ((Array.range (m * z.size)).map (z[· % z.size]!))[i * z.size + j]? = z[j]? := by
  have h3 : (i + 1) * z.size ≤ m * z.size := Nat.mul_le_mul_right _ hi
  rw [Nat.succ_mul] at h3
  rw [Array.getElem?_map, Array.getElem?_range, if_pos (by omega)]
  simp only [Option.map_some]
  rw [Nat.add_comm, Nat.add_mul_mod_self_right, Nat.mod_eq_of_lt hj, getElem!_pos z j hj, Array.getElem?_eq_getElem hj]
theorem exec_makeSlice {t el : TypeId} {l c : Operand} {k1 k2 : IntKind} {n sz : Nat} (ho : o.op = .makeSlice t l c) (hl : e.ev l = .int k1 n) (hc : e.ev c = .int k2 n)
    (ht : (P.ti t).d = .slice el) (hel : (P.ti el).d ≠ .bad) (hsz : (P.ti el).size = sz) (hz : (P.ti el).zero.solid = true) (hzn : (P.ti el).zero.nc = sz) (hn : n ≤ 9223372036854775807) (hb : (P.ti el).bytes * n ≤ 281474976710656) :
    Exec P o e H (.view H.length 1 0 n) (H ++ [.row el 1 sz (List.replicate n (P.ti el).zero)]) := by
  intro N G a w hR hE
  have h1 := hE.ev l
  have h2 := hE.ev c
  rw [hl] at h1
  rw [hc] at h2
  simp only [V] at h1 h2
  obtain ⟨i, hi, his, hib⟩ := ti_info hel
  have hnj : (P.ti el).zero ≠ .junk := by intro k; rw [k] at hz; cases hz
  obtain ⟨z', hz1, hz2⟩ := run_zero hnj w
  have hV : V H.length G (P.ti el).zero z' := by rw [hz2]; exact V_ofVal _ _ _ _
  obtain ⟨hzs, hzc⟩ := V_cells hV (AV.solid_or hz)
  rw [hzn] at hzs
  have hw64 : IntKind.i64.wrap (n : Int) = n := wrap_i64 (by omega) (by omega)
  have hask : ∀ (b : Nat) (w : World), (askRoom b).run P w = .ok () w := by
    intro b w
    unfold askRoom
    split <;> rfl
  have hbb : ¬ ((i.bytes : Int) * (n : Int) > 2 ^ 48) := by
    rw [hib] at hb
    rw [← Int.natCast_mul]
    show ¬ (_ > (281474976710656 : Int))
    omega
  let arr : Array Value := (Array.range (n * sz)).map ((if n * sz = 0 then #[] else z'.cells)[· % (if n * sz = 0 then #[] else z'.cells).size]!)
  have hsz0 : arr.size = n * sz := by simp [arr]
  have hrun : (Instr.makeSlice t (a.eval l) (a.eval c)).run P w = .ok (.slice (some ⟨w.heap.size, 0, none⟩) n n) { w with heap := w.heap.push (.cells arr el) } := by
    simp only [Instr.makeSlice, bindRun, pureRun, run_underlying (under_slice ht), h1, h2, asInt, asIntOf, run_typeInfo hi, hw64, iteRun, hask, run_sizeOf hel, hsz, Int.toNat_natCast]
    have c1 : (decide ((n : Int) < 0) || decide ((i.bytes : Int) * (n : Int) > 2 ^ 48)) = false := by
      rw [Bool.or_eq_false_iff]; exact ⟨decide_eq_false (by omega), decide_eq_false hbb⟩
    rw [c1]
    simp only [Bool.false_or]
    have c2 : (decide ((n : Int) < 0) || decide ((n : Int) > (n : Int))) = false := by
      rw [Bool.or_eq_false_iff]; exact ⟨decide_eq_false (by omega), decide_eq_false (by omega)⟩
    simp only [c2, Bool.false_eq_true, if_false]
    by_cases h0 : n * sz = 0
    · simp only [arr, h0, if_true]
      rfl
    · simp only [arr, h0, if_false, hz1]
      rfl
  let L := Loc.moved w.heap.size sz (n * sz) 1
  have hRp := hR.push (w' := { w with heap := w.heap.push (Obj.cells arr el) }) (.row el 1 sz (List.replicate n (P.ti el).zero)) L (fun _ => ⟨rfl, by simp⟩) (by simp) (fun b hb => heap_push _ _ hb) ⟨rfl, rfl, rfl⟩
    ⟨rfl, rfl, rfl, .inr ⟨rfl, arr, by simp [L, Loc.moved], by simp [L, Loc.moved, hsz0], by simp [L, Loc.moved], by
      refine Vrow_of fun i z hz' => ?_
      rw [List.getElem?_replicate] at hz'
      split at hz'
      · rename_i hin
        cases hz'
        refine ⟨hzn, Vcells_of fun j y hy => ?_⟩
        obtain ⟨u, hu, k⟩ := Vcells_get (Vcells.mono (Ext.push G _ L) _ _ _ hzc) hy
        refine ⟨u, ?_, k⟩
        have hj : j < sz := by rw [← hzn, AV.nc_eq]; rw [List.getElem?_eq_some_iff] at hy; exact hy.1
        have hne : ¬ n * sz = 0 := by
          intro h0
          rcases Nat.mul_eq_zero.1 h0 with h | h <;> omega
        simp only [L, Loc.moved, Nat.zero_add]
        have := madeCells_get z'.cells n i j (by omega) hin
        rw [hzs] at this
        simp only [arr, hne, if_false, hzs, this]
        rw [← hu, Nat.zero_add]
      · cases hz'⟩⟩
  refine ⟨_, .slice (some ⟨w.heap.size, 0, none⟩) n n, _, _, ?_, .inl rfl, ?_, hRp⟩
  · simp only [execOp, ho]
    exact run_value P _ w _ _ hrun
  · simp only [V, List.length_append, List.length_cons, List.length_nil, Nat.zero_add, Ghost.put_same]
    exact ⟨by omega, by simp [L, Loc.moved], _, n, rfl, Nat.le_refl _, fun _ => .inr ⟨rfl, by simp [L, Loc.moved], by simp [L, Loc.moved]⟩⟩

/-- What a slice's literal lays: its elements' cells. -/
theorem fill_all {size : Nat} : ∀ (l : List (Nat × Value)) (cells : Array Value) (k : Nat), (∀ (j : Nat) (x : Nat × Value), l[j]? = some x → x.1 = k + j ∧ x.2.cells.size = size) → (k + l.length) * size ≤ cells.size →
    ∃ out, Instr.fill (fun i => some (i * size, size)) cells l = some out ∧ out.size = cells.size ∧ (∀ i, i < k * size → out[i]? = cells[i]?) ∧
      ∀ (j : Nat) (x : Nat × Value), l[j]? = some x → ∀ q, q < size → out[(k + j) * size + q]? = x.2.cells[q]? := by
  intro l
  induction l with
  | nil => intro cells k _ _; exact ⟨cells, rfl, rfl, fun _ _ => rfl, fun j x hx => by simp at hx⟩
  | cons y l ih =>
    intro cells k hl hs
    obtain ⟨h1, h2⟩ := hl 0 y rfl
    obtain ⟨i, v⟩ := y
    simp only [Nat.add_zero] at h1
    subst h1
    simp only [List.length_cons] at hs
    have hs1 : (i + (l.length + 1)) * size = i * size + (l.length * size + size) := by rw [Nat.add_mul, Nat.succ_mul]
    have hmid : ∃ mid : Array Value, v.cells.zipIdx.foldl (fun cs (c, j) => cs.setIfInBounds (i * size + j) c) cells = mid ∧ mid = wr cells (i * size) v.cells.toList := by
      refine ⟨_, rfl, ?_⟩
      have gen : ∀ (l : List Value) (n : Nat) (c : Array Value), (l.zipIdx n).foldl (fun cs (x : Value × Nat) => cs.setIfInBounds (i * size + x.2) x.1) c = wr c (i * size + n) l := by
        intro l
        induction l with
        | nil => intro n c; rfl
        | cons x l ih => intro n c; simp only [List.zipIdx_cons, List.foldl_cons, wr]; rw [ih]; rfl
      have := gen v.cells.toList 0 cells
      rw [Nat.add_zero] at this
      rw [← this, ← Array.foldl_toList]
      simp
    obtain ⟨mid, hm1, hm2⟩ := hmid
    have hms : mid.size = cells.size := by rw [hm2, wr_size]
    obtain ⟨out, k1, k2, k3, k4⟩ := ih mid (i + 1) (fun j x hx => by
      obtain ⟨a1, a2⟩ := hl (j + 1) x (by simpa using hx)
      exact ⟨by omega, a2⟩) (by rw [hms, show i + 1 + l.length = i + (l.length + 1) by omega]; exact hs)
    have hvl : v.cells.toList.length = size := by simpa using h2
    refine ⟨out, ?_, by omega, fun j hj => ?_, fun j x hx q hq => ?_⟩
    · simp only [Instr.fill]
      rw [if_neg]
      · rw [hm1]; exact k1
      · rw [h2]
        simp only [ne_eq, not_true_eq_false, decide_false, Bool.false_or, decide_eq_true_eq, gt_iff_lt, Nat.not_lt]
        omega
    · rw [k3 j (by rw [Nat.succ_mul]; omega), hm2, wr_get _ _ _ (by rw [hvl]; omega), if_neg (by omega)]
    · cases j with
      | zero =>
        simp at hx
        subst hx
        rw [Nat.add_zero, k3 _ (by rw [Nat.succ_mul]; omega), hm2, wr_get _ _ _ (by rw [hvl]; omega), if_pos (by omega)]
        simp
      | succ j =>
        have := k4 j x (by simpa using hx) q hq
        rw [show i + (j + 1) = i + 1 + j by omega]
        exact this


/-- A new block that nobody writes. -/
def Ghost.seal (G : Ghost) (b : Nat) (x : Obj) : Ghost := { G with snap := fun j => if j = b then some x else G.snap j }
theorem Ext.seal {G : Ghost} {n b : Nat} {x : Obj} (h : G.snap b = none) : Ext n n G (G.seal b x) where
  le := Nat.le_refl _
  snap j y hj := by
    simp only [Ghost.seal]
    split
    · rename_i e; subst e; rw [h] at hj; cases hj
    · exact hj
  gen _ _ := Nat.le_refl _
  same _ _ _ := rfl
  fixed _ _ _ := rfl
  born _ _ _ _ h := h
theorem Rel.sealed {G : Ghost} {w : World} (h : Rel G H w) (x : Obj) : Rel (G.seal w.heap.size x) H { w with heap := w.heap.push x } ∧ Step H.length H.length G w (G.seal w.heap.size x) { w with heap := w.heap.push x } := by
  have hE : Ext H.length H.length G (G.seal w.heap.size x) := Ext.seal h.fresh
  refine ⟨⟨fun b y hb => ?_, fun id y hid => ?_, fun id y hid hon => ?_, h.apart⟩, ⟨hE, rfl, rfl, rfl, by simp⟩⟩
  · simp only [Ghost.seal] at hb
    split at hb
    · rename_i e; subst e; cases hb; simp
    · have := h.snap b y hb
      rw [heap_push _ _ (by rw [Array.getElem?_eq_some_iff] at this; exact this.1)]
      exact this
  · exact (h.obj id y hid).mono hE fun hon => heap_push _ _ (h.own id y hid hon).2
  · have := h.own id y hid hon
    refine ⟨?_, by simp; exact Nat.lt_succ_of_lt this.2⟩
    simp only [Ghost.seal]
    rw [if_neg (by omega)]
    exact this.1

theorem run_buildSlice {t el : TypeId} {len sz : Nat} {parts : Array (Nat × Operand)} {ys : List AV} {n : Nat} {N : Fr} {G : Ghost} {a : Act} {w : World} (hE : EnvRel N n G e a)
    (ht : (P.ti t).d = .slice el) (hel : (P.ti el).d ≠ .bad) (hsz : (P.ti el).size = sz) (hz : (P.ti el).zero.solid = true) (hzn : (P.ti el).zero.nc = sz)
    (hix : parts.toList.map (·.1) = List.range len) (hys : parts.toList.map (fun x => e.ev x.2) = ys) (hn : ∀ y ∈ ys, y.nc = sz) (hs : ∀ y ∈ ys, y.solid = true) (hlen : len * sz ≤ 16777216) :
    ∃ arr, (Instr.buildSlice t len (parts.map fun (i, x) => (i, a.eval x))).run P w = .ok (.slice (some ⟨w.heap.size, 0, none⟩) len len) { w with heap := w.heap.push (.cells arr el) } ∧ arr.size = len * sz ∧ ys.length = len ∧ Vrow n G sz ys arr 0 := by
  have hnj : (P.ti el).zero ≠ .junk := by intro k; rw [k] at hz; cases hz
  obtain ⟨z', hz1, hz2⟩ := run_zero hnj w
  have hV : V n G (P.ti el).zero z' := by rw [hz2]; exact V_ofVal _ _ _ _
  obtain ⟨hzs, hzc⟩ := V_cells hV (AV.solid_or hz)
  rw [hzn] at hzs
  have hpl : parts.toList.length = len := by have := congrArg List.length hix; simpa using this
  have hyl : ys.length = len := by rw [← hys, List.length_map, hpl]
  let zero : Array Value := if len * sz = 0 then #[] else z'.cells
  let base : Array Value := (Array.range (len * sz)).map (zero[· % zero.size]!)
  have hbs : base.size = len * sz := by simp [base]
  have hp : ∀ (j : Nat) (x : Nat × Value), ((parts.map fun (i, x) => (i, a.eval x)).toList)[j]? = some x → ∃ y, ys[j]? = some y ∧ x.1 = j ∧ V n G y x.2 := by
    intro j x hx
    rw [Array.toList_map, List.getElem?_map, Option.map_eq_some_iff] at hx
    obtain ⟨q, hq, rfl⟩ := hx
    refine ⟨e.ev q.2, by rw [← hys, List.getElem?_map, hq]; rfl, ?_, hE.ev q.2⟩
    have h1 : (parts.toList.map (·.1))[j]? = some q.1 := by rw [List.getElem?_map, hq]; rfl
    rw [hix] at h1
    rw [List.getElem?_eq_some_iff] at h1
    obtain ⟨h2, h3⟩ := h1
    simpa using h3.symm
  have hcell : ∀ (j : Nat) (x : Nat × Value), ((parts.map fun (i, x) => (i, a.eval x)).toList)[j]? = some x → x.1 = 0 + j ∧ x.2.cells.size = sz := by
    intro j x hx
    obtain ⟨y, hy, h1, h2⟩ := hp j x hx
    have hm := List.mem_of_getElem? hy
    exact ⟨by omega, by rw [(V_cells h2 (AV.solid_or (hs y hm))).1, hn y hm]⟩
  obtain ⟨out, k1, k2, _, k4⟩ := fill_all (size := sz) (parts.map fun (i, x) => (i, a.eval x)).toList base 0 hcell (by rw [hbs]; simp [← hpl])
  refine ⟨out, ?_, by rw [k2, hbs], hyl, Vrow_of fun i y hy => ⟨hn y (List.mem_of_getElem? hy), Vcells_of fun q u hu => ?_⟩⟩
  · have hbig : ¬ (len * sz > 2 ^ 24) := by show ¬ (len * sz > 16777216); omega
    simp only [Instr.buildSlice, bindRun, pureRun, run_underlying (under_slice ht), run_sizeOf hel, hsz, iteRun, if_neg hbig]
    by_cases h0 : len * sz = 0
    · have k1' := k1
      simp only [base, zero, h0, if_true] at k1'
      simp only [h0, if_true, k1']
      rfl
    · have k1' := k1
      simp only [base, zero, h0, if_false] at k1'
      simp only [h0, if_false, hz1, k1']
      rfl
  · have hi : i < len := by rw [← hyl]; rw [List.getElem?_eq_some_iff] at hy; exact hy.1
    have hq : q < sz := by rw [← hn y (List.mem_of_getElem? hy), AV.nc_eq]; rw [List.getElem?_eq_some_iff] at hu; exact hu.1
    have hx : ((parts.map fun (i, x) => (i, a.eval x)).toList)[i]? = some _ := List.getElem?_eq_getElem (by rw [Array.length_toList, Array.size_map, ← Array.length_toList, hpl]; exact hi)
    obtain ⟨y', hy', _, h2⟩ := hp i _ hx
    rw [hy] at hy'
    cases hy'
    obtain ⟨v, hv, k⟩ := Vcells_get (V_cells h2 (AV.solid_or (hs y (List.mem_of_getElem? hy)))).2 hu
    refine ⟨v, ?_, k⟩
    have := k4 i _ hx q hq
    rw [Nat.zero_add] at this ⊢
    rw [this, ← hv, Nat.zero_add]
/-- A literal that nobody writes. -/
theorem exec_buildSlice {t el : TypeId} {len sz : Nat} {parts : Array (Nat × Operand)} {ys : List AV} (ho : o.op = .buildSlice t len parts)
    (ht : (P.ti t).d = .slice el) (hel : (P.ti el).d ≠ .bad) (hsz : (P.ti el).size = sz) (hz : (P.ti el).zero.solid = true) (hzn : (P.ti el).zero.nc = sz)
    (hix : parts.toList.map (·.1) = List.range len) (hys : parts.toList.map (fun x => e.ev x.2) = ys) (hn : ∀ y ∈ ys, y.nc = sz) (hs : ∀ y ∈ ys, y.solid = true) (hlen : len * sz ≤ 16777216) : Exec P o e H (.lst ys) H := by
  intro N G a w hR hE
  obtain ⟨arr, hrun, ha, hl, hr⟩ := run_buildSlice (w := w) hE ht hel hsz hz hzn hix hys hn hs hlen
  have hRp := hR.sealed (.cells arr el)
  refine ⟨_, .slice (some ⟨w.heap.size, 0, none⟩) len len, _, _, ?_, .inl rfl, ?_, hRp⟩
  · simp only [execOp, ho]
    exact run_value P _ w _ _ hrun
  · simp only [V]
    refine .inr ⟨w.heap.size, 0, len, arr, el, (0, 0), sz, by rw [hl], by omega, by simp [Ghost.seal], Vrow.mono (Ext.seal hR.fresh) _ _ _ _ hr⟩
/-- A literal as a row of one's own. -/
theorem exec_buildRow {t el : TypeId} {len sz : Nat} {parts : Array (Nat × Operand)} {ys : List AV} (ho : o.op = .buildSlice t len parts)
    (ht : (P.ti t).d = .slice el) (hel : (P.ti el).d ≠ .bad) (hsz : (P.ti el).size = sz) (hz : (P.ti el).zero.solid = true) (hzn : (P.ti el).zero.nc = sz)
    (hix : parts.toList.map (·.1) = List.range len) (hys : parts.toList.map (fun x => e.ev x.2) = ys) (hn : ∀ y ∈ ys, y.nc = sz) (hs : ∀ y ∈ ys, y.solid = true) (hlen : len * sz ≤ 16777216) : Exec P o e H (.view H.length 1 0 len) (H ++ [.row el 1 sz ys]) := by
  intro N G a w hR hE
  obtain ⟨arr, hrun, ha, hl, hr⟩ := run_buildSlice (w := w) hE ht hel hsz hz hzn hix hys hn hs hlen
  let L := Loc.moved w.heap.size sz (len * sz) 1
  have hRp := hR.push (w' := { w with heap := w.heap.push (Obj.cells arr el) }) (.row el 1 sz ys) L (fun _ => ⟨rfl, by simp⟩) (by simp) (fun b hb => heap_push _ _ hb) ⟨rfl, rfl, rfl⟩
    ⟨rfl, rfl, rfl, .inr ⟨rfl, arr, by simp [L, Loc.moved], by simp [L, Loc.moved, ha], by simp [L, Loc.moved, hl], Vrow.mono (Ext.push G _ L) _ _ _ _ hr⟩⟩
  refine ⟨_, .slice (some ⟨w.heap.size, 0, none⟩) len len, _, _, ?_, .inl rfl, ?_, hRp⟩
  · simp only [execOp, ho]
    exact run_value P _ w _ _ hrun
  · simp only [V, List.length_append, List.length_cons, List.length_nil, Nat.zero_add, Ghost.put_same]
    exact ⟨by omega, by simp [L, Loc.moved], _, len, rfl, Nat.le_refl _, fun _ => .inr ⟨rfl, by simp [L, Loc.moved], by simp [L, Loc.moved]⟩⟩

end Go.Ab
end
section
set_option linter.unusedSimpArgs false
set_option linter.unusedVariables false
namespace Go.Ab
variable {P : Program} {o : Oper} {e : Env} {H : Heap}

/-! ### Numbers, bools, strings -/
/-- A value that is no nil interface and no aggregate. -/
def plainV : Value → Bool
  | .nilIface | .agg _ => false
  | _ => true
theorem eqGuard_ok {op : BinOp} {t : TypeId} {x y : Operand} {u v : Value} (h : plainV u = true) (w : World) : (eqGuard op t x y u v).run P w = .ok () w := by
  cases op <;> first
    | rfl
    | (cases u <;> first
        | (simp only [plainV, Bool.false_eq_true] at h; done)
        | rfl)
/-- What an operation on two numbers of one kind gives. -/
def iand (k : IntKind) (a b : Int) : Int := k.wrap (BitVec.ofInt k.bits a &&& BitVec.ofInt k.bits b).toNat
def ior (k : IntKind) (a b : Int) : Int := k.wrap (BitVec.ofInt k.bits a ||| BitVec.ofInt k.bits b).toNat
def ixor (k : IntKind) (a b : Int) : Int := k.wrap (BitVec.ofInt k.bits a ^^^ BitVec.ofInt k.bits b).toNat
def iandNot (k : IntKind) (a b : Int) : Int := k.wrap (BitVec.ofInt k.bits a &&& ~~~ BitVec.ofInt k.bits b).toNat
def ishl (k : IntKind) (a b : Int) : Int := k.wrap (a * 2 ^ (min b.toNat k.bits))
def ishr (k : IntKind) (a b : Int) : Int := a / (2 ^ (min b.toNat k.bits))
def intOp (op : BinOp) (k : IntKind) (a b : Int) : AV :=
  match op with
  | .add => .int k (k.wrap (a + b))
  | .sub => .int k (k.wrap (a - b))
  | .mul => .int k (k.wrap (a * b))
  | .quo => if b = 0 then .junk else .int k (k.wrap (a.tdiv b))
  | .rem => if b = 0 then .junk else .int k (a.tmod b)
  | .and => .int k (iand k a b)
  | .or => .int k (ior k a b)
  | .xor => .int k (ixor k a b)
  | .andNot => .int k (iandNot k a b)
  | .eql => .bool (a == b)
  | .neq => .bool (a != b)
  | .lss => .bool (decide (a < b))
  | .leq => .bool (decide (a ≤ b))
  | .gtr => .bool (decide (a > b))
  | .geq => .bool (decide (a ≥ b))
  | _ => .junk
theorem exec_binInt {op : BinOp} {t t' : TypeId} {x y : Operand} {k : IntKind} {a b : Int} (ho : o.op = .binOp op t x y t') (hx : e.ev x = .int k a) (hy : e.ev y = .int k b) (hj : intOp op k a b ≠ .junk) : Exec P o e H (intOp op k a b) H :=
  .of_run fun N G ac w hR hE => by
    have h1 := hE.ev x
    have h2 := hE.ev y
    rw [hx] at h1
    rw [hy] at h2
    simp only [V] at h1 h2
    have fin : ∀ v : Value, (binOp op t (.int k a) (.int k b)).run P w = .ok v w → (execOp ac.eval o).run P w = .ok (.value v) w := by
      intro v hv
      simp only [execOp, ho, h1, h2]
      refine run_value P _ w w v ?_
      rw [bindRun, eqGuard_ok rfl]
      exact hv
    cases op <;> simp only [intOp, ne_eq, not_true_eq_false, reduceCtorEq, not_false_eq_true] at hj ⊢
    all_goals first
      | (refine ⟨_, fin _ (by simp only [binOp, ne_eq, not_true_eq_false, if_false]; rfl), ?_⟩; simp only [V, iand, ior, ixor, iandNot]; done)
      | skip
    all_goals
      by_cases hb : b = 0
      · simp only [hb, if_true, not_true_eq_false] at hj
      · refine ⟨_, fin _ (by simp only [binOp, Op.intDiv, ne_eq, not_true_eq_false, if_false, if_neg hb]; rfl), ?_⟩
        simp only [hb, if_false, V]
/-- A shift. -/
def shiftOp (op : BinOp) (k : IntKind) (a b : Int) : AV :=
  match op with
  | .shl => if b < 0 then .junk else .int k (ishl k a b)
  | .shr => if b < 0 then .junk else .int k (ishr k a b)
  | _ => .junk
theorem exec_shift {op : BinOp} {t t' : TypeId} {x y : Operand} {k k' : IntKind} {a b : Int} (ho : o.op = .binOp op t x y t') (hx : e.ev x = .int k a) (hy : e.ev y = .int k' b) (hj : shiftOp op k a b ≠ .junk) : Exec P o e H (shiftOp op k a b) H :=
  .of_run fun N G ac w hR hE => by
    have h1 := hE.ev x
    have h2 := hE.ev y
    rw [hx] at h1
    rw [hy] at h2
    simp only [V] at h1 h2
    have fin : ∀ v : Value, (binOp op t (.int k a) (.int k' b)).run P w = .ok v w → (execOp ac.eval o).run P w = .ok (.value v) w := by
      intro v hv
      simp only [execOp, ho, h1, h2]
      refine run_value P _ w w v ?_
      rw [bindRun, eqGuard_ok rfl]
      exact hv
    cases op <;> simp only [shiftOp, ne_eq, not_true_eq_false, reduceCtorEq, not_false_eq_true] at hj ⊢
    all_goals
      by_cases hb : b < 0
      · simp only [hb, if_true, not_true_eq_false] at hj
      · refine ⟨_, fin _ (by simp only [binOp, Op.shift, if_neg hb]; rfl), ?_⟩
        simp only [hb, if_false, V, ishl, ishr]
        try rw [Int.fdiv_eq_ediv_of_nonneg _ (Int.le_of_lt (Int.pow_pos (by omega)))]
theorem beq_decide {α : Type} [BEq α] [LawfulBEq α] [DecidableEq α] (a b : α) : (a == b) = decide (a = b) := by rw [Bool.eq_iff_iff]; simp
/-- What an operation on two strings gives. -/
def strOp (op : BinOp) (s t : List UInt8) : AV :=
  match op with
  | .add => if (s.length + t.length : Nat) ≤ 9223372036854775807 then .str (s ++ t) else .junk
  | .eql => .bool (decide (s = t))
  | .neq => .bool (!(decide (s = t)))
  | .lss => .bool (Op.bytesLess s t)
  | .gtr => .bool (!(Op.bytesLess s t || decide (s = t)))
  | .leq => .bool (Op.bytesLess s t || decide (s = t))
  | .geq => .bool (!(Op.bytesLess s t))
  | _ => .junk
theorem exec_binStr {op : BinOp} {t t' : TypeId} {x y : Operand} {a b : List UInt8} (ho : o.op = .binOp op t x y t') (hx : e.ev x = .str a) (hy : e.ev y = .str b) (hj : strOp op a b ≠ .junk) : Exec P o e H (strOp op a b) H :=
  .of_run fun N G ac w hR hE => by
    have h1 := hE.ev x
    have h2 := hE.ev y
    rw [hx] at h1
    rw [hy] at h2
    simp only [V] at h1 h2
    have fin : ∀ v : Value, (binOp op t (.string (ba a)) (.string (ba b))).run P w = .ok v w → (execOp ac.eval o).run P w = .ok (.value v) w := by
      intro v hv
      simp only [execOp, ho, h1, h2]
      refine run_value P _ w w v ?_
      rw [bindRun, eqGuard_ok rfl]
      exact hv
    cases op <;> simp only [strOp, ne_eq, not_true_eq_false, reduceCtorEq, not_false_eq_true] at hj ⊢
    all_goals first
      | (refine ⟨_, fin _ (by simp only [binOp, Op.stringOp, ba_toList]; rfl), ?_⟩; simp only [V, beq_decide]; done)
      | skip
    by_cases hb : a.length + b.length ≤ 9223372036854775807
    · refine ⟨.string (ba a ++ ba b), fin _ ?_, by simp only [hb, if_true, V, ba_append]⟩
      have : ¬ ((((ba a).size + (ba b).size : Nat) : Int) > IntKind.i64.max) := by
        rw [ba_size, ba_size]
        simp only [IntKind.max, IntKind.signed, IntKind.bits, if_true]; omega
      simp only [binOp, Op.stringOp, if_neg this, pureRun]
    · simp only [hb, if_false, not_true_eq_false] at hj
theorem equalIn_succ_bool {n : Nat} {t : TypeId} {a b : Bool} (ht : (P.ti t).d = .bool) (w : World) : (Op.equalIn (n + 1) t (.bool a) (.bool b)).run P w = .ok (a == b) w := by
  rw [Op.equalIn]
  rw [bindRun, run_underlying (under_bool ht)]
  rfl
theorem equalIn_succ_nil {n : Nat} {t el : TypeId} {a : Option Addr} {l c : Nat} (ht : (P.ti t).d = .slice el) (w : World) : (Op.equalIn (n + 1) t (.slice a l c) (.slice none 0 0)).run P w = .ok a.isNone w := by
  rw [Op.equalIn]
  rw [bindRun, run_underlying (under_slice ht)]
  cases a <;> rfl
/-- '==' and '!=' of bools. -/
theorem exec_eqBool {op : BinOp} {t t' : TypeId} {x y : Operand} {a b : Bool} (ho : o.op = .binOp op t x y t') (hop : op = .eql ∨ op = .neq) (ht : (P.ti t).d = .bool) (hx : e.ev x = .bool a) (hy : e.ev y = .bool b) : Exec P o e H (.bool (if op = .eql then a == b else a != b)) H :=
  .of_run fun N G ac w hR hE => by
    have h1 := hE.ev x
    have h2 := hE.ev y
    rw [hx] at h1
    rw [hy] at h2
    simp only [V] at h1 h2
    refine ⟨.bool (if op = .eql then a == b else a != b), ?_, by simp only [V]⟩
    simp only [execOp, ho, h1, h2]
    refine run_value P _ w w _ ?_
    rw [bindRun, eqGuard_ok rfl]
    dsimp only
    rcases hop with rfl | rfl
    · show ((Op.equalIn (9999 + 1) t (.bool a) (.bool b)).bind _).run P w = _
      rw [run_bind, equalIn_succ_bool ht]
      rfl
    · show ((Op.equalIn (9999 + 1) t (.bool a) (.bool b)).bind _).run P w = _
      rw [run_bind, equalIn_succ_bool ht]
      rfl

/-- Is a slice, a map, a function, a pointer nil? What '==' with nil tells. -/
def isNilAV : AV → Option Bool
  | .nilS | .nilM | .nilF | .nilP | .nilI => some true
  | .lst (_ :: _) | .map _ | .func .. | .ptr .. | .eptr .. | .iface .. => some false
  | _ => none
theorem exec_nilSlice {op : BinOp} {t t' el : TypeId} {x y : Operand} {a : AV} {r : Bool} (ho : o.op = .binOp op t x y t') (hop : op = .eql ∨ op = .neq) (ht : (P.ti t).d = .slice el) (hx : e.ev x = a) (hy : e.ev y = .nilS) (ha : a = .nilS ∧ r = true ∨ (∃ z l, a = .lst (z :: l)) ∧ r = false) : Exec P o e H (.bool (if op = .eql then r else !r)) H :=
  .of_run fun N G ac w hR hE => by
    have h1 := hE.ev x
    have h2 := hE.ev y
    rw [hx] at h1
    rw [hy] at h2
    simp only [V] at h2
    refine ⟨.bool (if op = .eql then r else !r), ?_, by simp only [V]⟩
    obtain ⟨ad, n, c, hv, hr⟩ : ∃ ad n c, ac.eval x = .slice ad n c ∧ ad.isNone = r := by
      rcases ha with ⟨rfl, rfl⟩ | ⟨⟨z, l, rfl⟩, rfl⟩
      · simp only [V] at h1; exact ⟨_, _, _, h1, rfl⟩
      · simp only [V] at h1
        obtain ⟨b, q, cap, c, ty, fr, size, hv, _⟩ := h1.resolve_left (by rintro ⟨h, -⟩; cases h)
        exact ⟨_, _, _, hv, rfl⟩
    simp only [execOp, ho, hv, h2]
    refine run_value P _ w w _ ?_
    rw [bindRun, eqGuard_ok rfl]
    dsimp only
    rcases hop with rfl | rfl
    · show ((Op.equalIn (9999 + 1) t (.slice ad n c) (.slice none 0 0)).bind _).run P w = _
      rw [run_bind, equalIn_succ_nil ht, hr]
      rfl
    · show ((Op.equalIn (9999 + 1) t (.slice ad n c) (.slice none 0 0)).bind _).run P w = _
      rw [run_bind, equalIn_succ_nil ht, hr]
      rfl

theorem exec_not {t : TypeId} {x : Operand} {b : Bool} (ho : o.op = .unOp .not t x) (hx : e.ev x = .bool b) : Exec P o e H (.bool (!b)) H :=
  .of_run fun N G ac w hR hE => by
    have h1 := hE.ev x
    rw [hx] at h1
    simp only [V] at h1
    refine ⟨.bool (!b), ?_, by simp only [V]⟩
    simp only [execOp, ho, h1]
    exact run_value P _ w w _ rfl
theorem exec_neg {t : TypeId} {x : Operand} {k : IntKind} {i : Int} (ho : o.op = .unOp .neg t x) (hx : e.ev x = .int k i) : Exec P o e H (.int k (k.wrap (0 - i))) H :=
  .of_run fun N G ac w hR hE => by
    have h1 := hE.ev x
    rw [hx] at h1
    simp only [V] at h1
    refine ⟨.int k (k.wrap (0 - i)), ?_, by simp only [V]⟩
    simp only [execOp, ho, h1]
    exact run_value P _ w w _ rfl

/-- How long a string, a slice is. -/
def lenAV : AV → Option Nat
  | .str s => some s.length
  | .nilS | .zS => some 0
  | .lst xs => some xs.length
  | .view _ _ _ n => some n
  | _ => none
theorem exec_len {t : TypeId} {x : Operand} {n : Nat} (ho : o.op = .call { callee := .builtin .len, args := #[x], argTypes := #[t] }) (hx : lenAV (e.ev x) = some n) (ht : (P.ti t).d = .string ∧ (∃ s, e.ev x = .str s) ∨ (∃ q, (P.ti t).d = .slice q) ∧ ∀ s, e.ev x ≠ .str s) : Exec P o e H (.int .i64 n) H :=
  .of_run fun N G ac w hR hE => by
    have h1 := hE.ev x
    refine ⟨.int .i64 n, ?_, by simp only [V]⟩
    have fin : (Builtin.len_ #[t] o.type #[ac.eval x]).run P w = .ok (.int .i64 n) w → (execOp ac.eval o).run P w = .ok (.value (.int .i64 n)) w := by
      intro hr
      simp only [execOp, ho, resolve, bindRun, pureRun, invoke, builtin, List.map_toArray, List.map_cons, List.map_nil, hr]
    apply fin
    rcases ht with ⟨ht, s, hs⟩ | ⟨⟨q, ht⟩, hs⟩
    · rw [hs] at h1 hx
      simp only [V] at h1
      simp only [lenAV, Option.some.injEq] at hx
      subst hx
      simp only [Builtin.len_, List.getElem?_toArray, List.getElem?_cons_zero, bindRun, pureRun, run_underlying (under_string ht), h1, goInt, ba_size]
    · obtain ⟨ad, c, hv⟩ : ∃ ad c, ac.eval x = .slice ad n c := by
        revert hx h1
        cases hex : e.ev x <;> simp only [lenAV, reduceCtorEq, Option.some.injEq, false_implies] <;> intro hx h1
        · exact absurd hex (hs _)
        · simp only [V] at h1; subst hx; exact ⟨_, _, h1⟩
        · simp only [V] at h1; subst hx; obtain ⟨a, h1⟩ := h1; exact ⟨_, _, h1⟩
        · simp only [V] at h1
          subst hx
          rcases h1 with ⟨rfl, hv⟩ | ⟨b, q, cap, c, ty, fr, size, hv, _⟩
          · exact ⟨_, _, hv⟩
          · exact ⟨_, _, hv⟩
        · simp only [V] at h1
          obtain ⟨_, _, ad, cap, hv, _⟩ := h1
          subst hx
          exact ⟨_, _, hv⟩
      simp only [Builtin.len_, List.getElem?_toArray, List.getElem?_cons_zero, bindRun, pureRun, run_underlying (under_slice ht), hv, goInt]


end Go.Ab
end
section
set_option linter.unusedSimpArgs false
set_option linter.unusedVariables false
/-! Structs and arrays of numbers, texts, bools: are two the same? -/
namespace Go.Ab
variable {P : Program}
inductive LK where
  | int (k : IntKind) | str | bool
  deriving DecidableEq
def leafOf : Desc → Option LK
  | .int k => some (.int k)
  | .string => some .str
  | .bool => some .bool
  | _ => none
def leafFs (ti : TypeId → TI) : Nat → List (TypeId × Nat × Bool) → Option (List LK)
  | _, [] => some []
  | i, (ft, off, blank) :: r => match leafOf (ti ft).d with
    | some l => match Nat.beq off i && !blank with
      | true => match leafFs ti (Nat.succ i) r with | some ls => some (l :: ls) | none => none
      | false => none
    | none => none
def leaves (ti : TypeId → TI) (d : Desc) : Option (List LK) := match d with
  | .struct fs => leafFs ti 0 fs
  | .array n el => match leafOf (ti el).d with
    | some l => match Nat.beq (ti el).size 1 with | true => some (List.replicate n l) | false => none
    | none => none
  | _ => none
def LK.has : LK → Value → Prop
  | .int k, v => ∃ n, v = .int k n
  | .str, v => ∃ s, v = .string s
  | .bool, v => ∃ b, v = .bool b
def leafEq : Value → Value → Bool
  | .int _ a, .int _ b => a == b
  | .string a, .string b => a == b
  | .bool a, .bool b => a == b
  | _, _ => false
theorem run_forAll {α : Type} {w : World} (body : α → Option Bool × Unit → Sem (ForInStep (Option Bool × Unit))) (g : α → Bool) : ∀ l : List α, (∀ x ∈ l, (body x (none, ())).run P w = .ok (if g x = true then .yield (none, ()) else .done (some false, ())) w) →
    (forIn l (none, ()) body).run P w = .ok (if l.all g = true then (none, ()) else (some false, ())) w := by
  intro l
  induction l with
  | nil => intro _; rfl
  | cons x l ih =>
    intro h
    rw [List.forIn_cons, bindRun, h x List.mem_cons_self]
    cases hg : g x with
    | false => simp [List.all_cons, hg, pureRun]
    | true =>
      simp only [if_true, List.all_cons, hg, Bool.true_and]
      exact ih fun y hy => h y (List.mem_cons_of_mem _ hy)
def LK.td : LK → TypeDesc | .int k => .int k | .str => .string | .bool => .bool
theorem under_leaf {t : TypeId} {l : LK} (h : leafOf (P.ti t).d = some l) : P.underlying t = some l.td ∧ (P.ti t).d.agg = false ∧ (P.ti t).d ≠ .bad := by
  generalize hd : (P.ti t).d = d at h ⊢
  cases d <;> simp only [leafOf, reduceCtorEq, Option.some.injEq] at h <;> subst h
  · exact ⟨under_bool hd, rfl, by simp⟩
  · exact ⟨under_int hd, rfl, by simp⟩
  · exact ⟨under_string hd, rfl, by simp⟩
theorem run_part_leaf {t : TypeId} {l : LK} (h : leafOf (P.ti t).d = some l) {cs : Array Value} {i : Nat} {v : Value} (hv : cs[i]? = some v) (w : World) : (part t cs i).run P w = .ok v w := by
  obtain ⟨_, ha, hb⟩ := under_leaf h
  unfold part
  rw [bindRun, run_isAgg hb, ha]
  simp [hv, pureRun]
theorem equal_leaf {n : Nat} {t : TypeId} {l : LK} (h : leafOf (P.ti t).d = some l) {u v : Value} (hu : l.has u) (hv : l.has v) (w : World) : (Op.equalIn (n + 1) t u v).run P w = .ok (leafEq u v) w := by
  obtain ⟨hun, _, _⟩ := under_leaf h
  cases l <;> obtain ⟨a, rfl⟩ := hu <;> obtain ⟨b, rfl⟩ := hv <;> simp only [Op.equalIn, bindRun, run_underlying hun, leafEq, LK.td] <;> first | rfl | simp [pureRun]
theorem leafFs_get {ti : TypeId → TI} : ∀ (fs : List (TypeId × Nat × Bool)) (i : Nat) (ls : List LK), leafFs ti i fs = some ls → fs.length = ls.length ∧ ∀ (j : Nat) (f : TypeId × Nat × Bool), fs[j]? = some f → f.2.1 = i + j ∧ f.2.2 = false ∧ ∃ l, ls[j]? = some l ∧ leafOf (ti f.1).d = some l := by
  intro fs
  induction fs with
  | nil => intro i ls h; cases h; simp
  | cons f r ih =>
    intro i ls h
    obtain ⟨ft, off, bl⟩ := f
    simp only [leafFs] at h
    split at h
    · rename_i l hl
      split at h
      · rename_i hb
        split at h
        · rename_i ls' hr
          cases h
          obtain ⟨h1, h2⟩ := ih _ _ hr
          simp only [Bool.and_eq_true, Nat.beq_eq, Bool.not_eq_true'] at hb
          refine ⟨by simp [h1], fun j f hf => ?_⟩
          cases j with
          | zero => simp at hf; subst hf; exact ⟨hb.1, hb.2, l, rfl, hl⟩
          | succ j =>
            obtain ⟨a1, a2, l', a3, a4⟩ := h2 j f (by simpa using hf)
            exact ⟨by omega, a2, l', by simpa using a3, a4⟩
        · cases h
      · cases h
    · cases h
/-- Do cells hold what leaves say? -/
def Leaves (ls : List LK) (xs : Array Value) : Prop := ∀ (i : Nat) (l : LK), ls[i]? = some l → ∃ v, xs[i]? = some v ∧ l.has v
def leavesEq (xs ys : Array Value) (i : Nat) : Bool := leafEq (xs.getD i undef) (ys.getD i undef)
theorem equal_leaves {t : TypeId} {ls : List LK} (h : leaves P.ti (P.ti t).d = some ls) (hs : P.stoodInHeld t = false) {xs ys : Array Value} (hx : Leaves ls xs) (hy : Leaves ls ys) (w : World) :
    (Op.equalIn 10000 t (.agg xs) (.agg ys)).run P w = .ok ((List.range ls.length).all (leavesEq xs ys)) w := by
  show (Op.equalIn (9999 + 1) t (.agg xs) (.agg ys)).run P w = _
  have one : ∀ (ft : TypeId) (i : Nat) (l : LK), leafOf (P.ti ft).d = some l → ls[i]? = some l → (do
        let __do_lift ← part ft xs i
        let __do_lift_1 ← part ft ys i
        let __do_lift ← Op.equalIn 9999 ft __do_lift __do_lift_1
        if (!__do_lift) = true then pure (ForInStep.done (some false, ()))
          else pure (ForInStep.yield (none, ())) : Sem (ForInStep (Option Bool × Unit))).run P w = .ok (if leavesEq xs ys i = true then .yield (none, ()) else .done (some false, ())) w := by
    intro ft i l hl hi
    obtain ⟨u, hu, hu'⟩ := hx i l hi
    obtain ⟨v, hv, hv'⟩ := hy i l hi
    rw [bindRun, run_part_leaf hl hu]
    dsimp only
    rw [bindRun, run_part_leaf hl hv]
    dsimp only
    rw [bindRun, equal_leaf (n := 9998) hl hu' hv']
    have hxx : leavesEq xs ys i = leafEq u v := by simp [leavesEq, Array.getD_eq_getD_getElem?, hu, hv]
    rw [hxx]
    cases leafEq u v <;> rfl
  unfold leaves at h
  split at h
  · rename_i fs hd
    obtain ⟨gs, hgs, hfe⟩ := under_struct hd
    obtain ⟨hlen, hget⟩ := leafFs_get _ _ _ h
    rw [Op.equalIn]
    simp only [bindRun, run_underlying hgs, program, Sem.run, hs, Bool.false_eq_true, if_false]
    rw [← Array.forIn_toList]
    have hfield : ∀ (j : Nat) (f : Field), gs.toList[j]? = some f → f.offset = j ∧ f.name ≠ "_" ∧ ∃ l, ls[j]? = some l ∧ leafOf (P.ti f.type).d = some l := by
      intro j f hf
      obtain ⟨a1, a2, a3⟩ := hget j (f.type, f.offset, f.name == "_") (by rw [hfe, List.getElem?_map, hf]; rfl)
      exact ⟨by simpa using a1, by simpa using a2, a3⟩
    have hrun := run_forAll (P := P) (w := w) (fun (f : Field) (__s : Option Bool × Unit) =>
                if f.name ≠ "_" then do
                  let __do_lift ← part f.type xs f.offset
                  let __do_lift_1 ← part f.type ys f.offset
                  let __do_lift ← Op.equalIn 9999 f.type __do_lift __do_lift_1
                  if (!__do_lift) = true then pure (ForInStep.done (some false, ()))
                    else pure (ForInStep.yield (none, ()))
                else pure (ForInStep.yield (none, ()))) (fun f => leavesEq xs ys f.offset) gs.toList (fun f hf => by
      obtain ⟨j, hj⟩ := List.getElem?_of_mem hf
      obtain ⟨a1, a2, l, a3, a4⟩ := hfield j f hj
      rw [if_pos a2]
      exact one f.type f.offset l a4 (by rw [a1]; exact a3))
    have hall : gs.toList.all (fun f => leavesEq xs ys f.offset) = (List.range ls.length).all (leavesEq xs ys) := by
      have hlen' : gs.toList.length = ls.length := by rw [← hlen, hfe, List.length_map]
      rw [Bool.eq_iff_iff, List.all_eq_true, List.all_eq_true]
      constructor
      · intro k j hj
        have hj' : j < gs.toList.length := by rw [hlen']; exact List.mem_range.1 hj
        have := k _ (List.getElem_mem hj')
        rwa [(hfield j _ (List.getElem?_eq_getElem hj')).1] at this
      · intro k f hf
        obtain ⟨j, hj⟩ := List.getElem?_of_mem hf
        rw [(hfield j f hj).1]
        exact k j (List.mem_range.2 (by rw [← hlen']; exact (List.getElem?_eq_some_iff.1 hj).1))
    rw [hrun, hall]
    cases (List.range ls.length).all (leavesEq xs ys) <;> rfl
  · rename_i n el hd
    split at h
    · rename_i l hl
      split at h
      · rename_i h1
        cases h
        rw [Nat.beq_eq] at h1
        rw [Op.equalIn]
        obtain ⟨hun, _, hb⟩ := under_leaf hl
        simp only [bindRun, run_underlying (under_array hd), run_sizeOf hb, h1, Nat.mul_one]
        rw [Std.Legacy.Range.forIn_eq_forIn_range']
        have hrun := run_forAll (P := P) (w := w) (fun (i : Nat) (__s : Option Bool × Unit) => (do
                  let __do_lift ← part el xs i
                  let __do_lift_1 ← part el ys i
                  let __do_lift ← Op.equalIn 9999 el __do_lift __do_lift_1
                  if (!__do_lift) = true then pure (ForInStep.done (some false, ()))
                    else pure (ForInStep.yield (none, ())))) (leavesEq xs ys) (List.range n) (fun i hi => one el i l hl (by simp [List.getElem?_replicate, List.mem_range.1 hi]))
        simp only [Std.Legacy.Range.size, Nat.sub_zero, Nat.add_sub_cancel, Nat.div_one]
        rw [← List.range_eq_range', hrun]
        simp only [List.length_replicate]
        cases (List.range n).all (leavesEq xs ys) <;> rfl
      · cases h
    · cases h
  · cases h
/-- A key made of numbers may be one. -/
theorem run_forUnit {α : Type} {w : World} (body : α → Unit → Sem (ForInStep Unit)) : ∀ l : List α, (∀ x ∈ l, (body x ()).run P w = .ok (.yield ()) w) → (forIn l () body).run P w = .ok () w := by
  intro l
  induction l with
  | nil => intro _; rfl
  | cons x l ih =>
    intro h
    rw [List.forIn_cons, bindRun, h x List.mem_cons_self]
    exact ih fun y hy => h y (List.mem_cons_of_mem _ hy)
theorem checkKey_leaf {n : Nat} {b : Bool} {t : TypeId} {l : LK} (h : leafOf (P.ti t).d = some l) {u : Value} (w : World) : (Instr.checkKey b (n + 1) t u).run P w = .ok () w := by
  obtain ⟨hun, _, _⟩ := under_leaf h
  cases l <;> simp only [Instr.checkKey, bindRun, run_underlying hun, LK.td] <;> rfl
theorem checkKey_leaves {b : Bool} {t : TypeId} {ls : List LK} (h : leaves P.ti (P.ti t).d = some ls) {xs : Array Value} (hx : Leaves ls xs) (w : World) : (Instr.checkKey b 10000 t (.agg xs)).run P w = .ok () w := by
  show (Instr.checkKey b (9999 + 1) t (.agg xs)).run P w = _
  have fin : ∀ r : Result PUnit, r = .ok () w → (match r with | .ok a w' => (pure () : Sem Unit).run P w' | .halt h w' => .halt h w') = .ok () w := by rintro r rfl; rfl
  unfold leaves at h
  split at h
  · rename_i fs hd
    obtain ⟨gs, hgs, hfe⟩ := under_struct hd
    obtain ⟨hlen, hget⟩ := leafFs_get _ _ _ h
    rw [Instr.checkKey]
    simp only [bindRun, run_underlying hgs]
    rw [← Array.forIn_toList]
    have := run_forUnit (P := P) (w := w) (fun (f : Field) (__s : Unit) => if f.name ≠ "_" then do
            let __do_lift ← part f.type xs f.offset
            Instr.checkKey b 9999 f.type __do_lift
            pure (ForInStep.yield ())
          else pure (ForInStep.yield ())) gs.toList (fun f hf => by
      obtain ⟨j, hj⟩ := List.getElem?_of_mem hf
      obtain ⟨a1, a2, l, a3, a4⟩ := hget j (f.type, f.offset, f.name == "_") (by rw [hfe, List.getElem?_map, hj]; rfl)
      obtain ⟨u, hu, _⟩ := hx j l a3
      rw [if_pos (by simpa using a2), bindRun, run_part_leaf a4 (v := u) (by rw [show f.offset = j by simpa using a1]; exact hu)]
      dsimp only
      rw [bindRun, checkKey_leaf (n := 9998) a4]
      rfl)
    split
    · rename_i a w1 h1
      have h2 := h1.symm.trans this
      cases h2
      rfl
    · rename_i a w1 h1
      have h2 := h1.symm.trans this
      cases h2
  · rename_i n el hd
    split at h
    · rename_i l hl
      split at h
      · rename_i h1
        cases h
        rw [Nat.beq_eq] at h1
        rw [Instr.checkKey]
        obtain ⟨hun, _, hb⟩ := under_leaf hl
        simp only [bindRun, run_underlying (under_array hd)]
        rw [Std.Legacy.Range.forIn_eq_forIn_range']
        simp only [Std.Legacy.Range.size, Nat.sub_zero, Nat.add_sub_cancel, Nat.div_one]
        rw [← List.range_eq_range']
        have := run_forUnit (P := P) (w := w) (fun (i : Nat) (__s : Unit) => (do
          let __do_lift ← sizeOf el
          let __do_lift ← part el xs (i * __do_lift)
          Instr.checkKey b 9999 el __do_lift
          pure (ForInStep.yield ()))) (List.range n) (fun i hi => ?_)
        · split
          · rename_i a w1 h1
            have h2 := h1.symm.trans this
            cases h2
            rfl
          · rename_i a w1 h1
            have h2 := h1.symm.trans this
            cases h2
        obtain ⟨u, hu, _⟩ := hx i l (by simp [List.getElem?_replicate, List.mem_range.1 hi])
        simp only [bindRun, run_sizeOf hb, h1, Nat.mul_one, run_part_leaf hl hu, checkKey_leaf (n := 9998) hl]
        rfl
      · cases h
    · cases h
  · cases h
end Go.Ab
end
section
set_option linter.unusedSimpArgs false
set_option linter.unusedVariables false
namespace Go.Ab
variable {P : Program} {o : Oper} {e : Env} {H : Heap}

/-! ### Maps of one's own -/
def mget : List (Key × AV) → Key → Option AV
  | [], _ => none
  | (q, v) :: r, k => if k = q then some v else mget r k
def mput : List (Key × AV) → Key → AV → List (Key × AV)
  | [], k, v => [(k, v)]
  | (q, u) :: r, k, v => if k = q then (q, v) :: r else (q, u) :: mput r k v
/-- Where a key stands. -/
def mfind : List (Key × AV) → Key → Option Nat
  | [], _ => none
  | (q, _) :: r, k => if k = q then some 0 else (mfind r k).map (· + 1)
theorem mget_of_find (es : List (Key × AV)) (k : Key) : mget es k = (mfind es k).bind fun i => (es[i]?).map (·.2) := by
  induction es with
  | nil => rfl
  | cons x r ih =>
    obtain ⟨q, v⟩ := x
    simp only [mget, mfind]
    split
    · rfl
    · rw [ih]
      cases mfind r k <;> simp
theorem mput_of_none (es : List (Key × AV)) (k : Key) (v : AV) (h : mfind es k = none) : mput es k v = es ++ [(k, v)] := by
  induction es with
  | nil => rfl
  | cons x r ih =>
    obtain ⟨q, u⟩ := x
    simp only [mfind] at h
    simp only [mput]
    split at h
    · cases h
    · rename_i hne
      rw [if_neg hne, ih (by simpa using h)]
      rfl
theorem mput_of_some (es : List (Key × AV)) (k : Key) (v : AV) (i : Nat) (h : mfind es k = some i) : mput es k v = es.set i (k, v) ∧ ∃ u, es[i]? = some (k, u) := by
  induction es generalizing i with
  | nil => cases h
  | cons x r ih =>
    obtain ⟨q, u⟩ := x
    simp only [mfind] at h
    simp only [mput]
    split at h
    · rename_i e
      cases h
      subst e
      rw [if_pos rfl]
      exact ⟨rfl, u, rfl⟩
    · rename_i hne
      rw [if_neg hne]
      cases hf : mfind r k with
      | none => rw [hf] at h; cases h
      | some j =>
        rw [hf] at h
        cases h
        obtain ⟨h1, h2⟩ := ih j hf
        exact ⟨by rw [h1]; rfl, by simpa using h2⟩

theorem ptr_one {n : Nat} {G : Ghost} : V n G (.tup []) undef := by simp only [V]; exact ⟨#[], rfl, rfl, by simp [Vcells]⟩
theorem mget_mem {es : List (Key × AV)} {k : Key} {v : AV} (h : mget es k = some v) : (k, v) ∈ es := by
  induction es with
  | nil => cases h
  | cons x r ih =>
    obtain ⟨q, u⟩ := x
    simp only [mget] at h
    split at h
    · rename_i e; subst e; cases h; exact List.mem_cons_self
    · exact List.mem_cons_of_mem _ (ih h)
theorem mget_of_mem {es : List (Key × AV)} (hn : (es.map (·.1)).Nodup) {k : Key} {v : AV} (h : (k, v) ∈ es) : mget es k = some v := by
  induction es with
  | nil => cases h
  | cons x r ih =>
    obtain ⟨q, u⟩ := x
    simp only [List.map_cons, List.nodup_cons] at hn
    simp only [mget]
    rcases List.mem_cons.1 h with e | e
    · cases e; rw [if_pos rfl]
    · rw [if_neg (fun hk => hn.1 (by rw [← hk]; exact List.mem_map_of_mem (f := (·.1)) e)), ih hn.2 e]
theorem mget_none {es : List (Key × AV)} {k : Key} (h : k ∉ es.map (·.1)) : mget es k = none := by
  cases hm : mget es k with
  | none => rfl
  | some v => exact absurd (List.mem_map_of_mem (f := (·.1)) (mget_mem hm)) h
theorem mget_none_iff {es : List (Key × AV)} {k : Key} (h : mget es k = none) : k ∉ es.map (·.1) := by
  induction es with
  | nil => simp
  | cons x r ih =>
    obtain ⟨q, u⟩ := x
    simp only [mget] at h
    split at h
    · cases h
    · rename_i hne
      simp only [List.map_cons, List.mem_cons, not_or]
      exact ⟨hne, ih h⟩

/-- A ghost that knows of no stamps of objects that are not there yet. -/
theorem Rel.bearNew {G : Ghost} {w : World} (h : Rel G H w) (B : Key → Option Nat) : Rel (G.bear H.length B) H w ∧ Ext H.length H.length G (G.bear H.length B) := by
  have hE : Ext H.length H.length G (G.bear H.length B) := ⟨Nat.le_refl _, fun _ _ h => h, fun _ _ => Nat.le_refl _, fun _ _ _ => rfl, fun _ _ _ => rfl, fun id hid k b hb => by rw [Ghost.bear_other _ _ (by omega)]; exact hb⟩
  refine ⟨⟨h.snap, fun id y hid => ?_, h.own, h.apart⟩, hE⟩
  have hlt : id < H.length := (List.getElem?_eq_some_iff.1 hid).1
  rw [Ghost.bear_other _ _ (by omega)]
  exact (h.obj id y hid).mono hE fun _ => rfl
theorem exec_makeMap {t : TypeId} {r : Option Operand} {kt : KT} {kT eT : TypeId} {k : IntKind} (ho : o.op = .makeMap t r) (ht : (P.ti t).d = .map kT eT) (hr : ∀ x, r = some x → ∃ n, e.ev x = .int k n) : Exec P o e H (.map H.length) (H ++ [.map kt []]) := by
  intro N G a w hR hE
  obtain ⟨hR0, hE0⟩ := hR.bearNew (fun _ => none)
  obtain ⟨hRp, hSp⟩ := hR0.push (w' := { w with heap := w.heap.push (Obj.map #[] 0) }) (.map kt []) (Loc.var w.heap.size) (fun _ => ⟨rfl, by simp⟩) (by simp) (fun b hb => heap_push _ _ hb) ⟨rfl, rfl, rfl⟩
    ⟨rfl, #[], by simp [Loc.var], ⟨rfl, by simp, by simp, by simp, by simp, by simp, by simp⟩⟩
  refine ⟨_, .map (some w.heap.size), _, _, ?_, .inl rfl, ?_, hRp, ⟨hE0.trans hSp.ext, hSp.os, hSp.tape, hSp.output, hSp.size⟩⟩
  · simp only [execOp, ho]
    refine run_value P _ w _ _ ?_
    cases r with
    | none => rfl
    | some x =>
      obtain ⟨n, hn⟩ := hr x rfl
      have h := hE.ev x
      rw [hn] at h
      simp only [V] at h
      simp only [Instr.makeMap, Option.map_some, bindRun, pureRun, run_underlying (under_map ht), h, asInt, asIntOf]
      rfl
  · simp only [V, List.length_append, List.length_cons, List.length_nil, Nat.zero_add]
    exact ⟨by omega, by simp [Loc.var], by simp [Loc.var]⟩

/-- Is a type a key's, of this kind? -/
def KT.of (P : Program) (kT : TypeId) : KT → Prop
  | .int q => (P.ti kT).d = .int q
  | .str => (P.ti kT).d = .string
  | .bool => (P.ti kT).d = .bool
  | .nums ks => leaves P.ti (P.ti kT).d = some (ks.map .int) ∧ P.stoodInHeld kT = false
theorem keyNums_spec : ∀ (ks : List IntKind) (cs : List AV) (l : List Int), AV.key.keyNums ks cs = some l → cs = (ks.zip l).map (fun x => .int x.1 x.2) ∧ l.length = ks.length := by
  intro ks
  induction ks with
  | nil =>
    intro cs l h
    cases cs with
    | nil => simp only [AV.key.keyNums, Option.some.injEq] at h; subst h; exact ⟨rfl, rfl⟩
    | cons x r => cases x <;> simp only [AV.key.keyNums, reduceCtorEq] at h
  | cons q ks ih =>
    intro cs l h
    cases cs with
    | nil => simp only [AV.key.keyNums, reduceCtorEq] at h
    | cons x r =>
      cases x <;> simp only [AV.key.keyNums, reduceCtorEq] at h
      split at h
      · rename_i e
        subst e
        rw [Option.map_eq_some_iff] at h
        obtain ⟨l', h1, rfl⟩ := h
        obtain ⟨rfl, h2⟩ := ih _ _ h1
        exact ⟨rfl, by simp [h2]⟩
      · cases h
theorem Vcells_ints {n : Nat} {G : Ghost} : ∀ (l : List (IntKind × Int)) (c : Array Value) (o : Nat), Vcells n G (l.map fun x => .int x.1 x.2) c o → ∀ i, i < l.length → c[o + i]? = some ((l.map fun x => Value.int x.1 x.2)[i]?.getD undef) := by
  intro l c o h i hi
  have hx : (l.map fun x => AV.int x.1 x.2)[i]? = some (.int (l[i]).1 (l[i]).2) := by rw [List.getElem?_map, List.getElem?_eq_getElem hi]; rfl
  obtain ⟨v, hv, k⟩ := Vcells_get h hx
  simp only [V] at k
  rw [hv, k, List.getElem?_map, List.getElem?_eq_getElem hi]
  rfl
theorem key_val {kt : KT} {n : Nat} {G : Ghost} {x : AV} {k : Key} {v : Value} (h : V n G x v) (hk : x.key kt = some k) : v = k.val kt ∧ k.fits kt = true := by
  cases kt <;> cases x <;> simp only [AV.key, reduceCtorEq] at hk <;> simp only [V] at h
  · split at hk
    · rename_i e; subst e; cases hk; exact ⟨h, rfl⟩
    · cases hk
  · cases hk; exact ⟨h, rfl⟩
  · cases hk; exact ⟨h, rfl⟩
  · rename_i ks cs
    rw [Option.map_eq_some_iff] at hk
    obtain ⟨l, hl, rfl⟩ := hk
    obtain ⟨rfl, hlen⟩ := keyNums_spec _ _ _ hl
    obtain ⟨vs, rfl, hs, hc⟩ := h
    refine ⟨?_, by simp [Key.fits, hlen]⟩
    simp only [Key.val]
    congr 1
    apply Array.ext'
    simp only
    refine List.ext_getElem? fun i => ?_
    by_cases hi : i < (ks.zip l).length
    · have := Vcells_ints _ _ _ hc i hi
      rw [Nat.zero_add] at this
      rw [Array.getElem?_toList, this, List.getElem?_map, List.getElem?_eq_getElem hi]
      rfl
    · rw [List.getElem?_eq_none (by simp at hi hs ⊢; omega), List.getElem?_eq_none (by simp at hi ⊢; omega)]
theorem nums_inj : ∀ (ks : List IntKind) (l m : List Int), ks.length = l.length → ks.length = m.length → (ks.zip l).map (fun x => Value.int x.1 x.2) = (ks.zip m).map (fun x => Value.int x.1 x.2) → l = m := by
  intro ks
  induction ks with
  | nil => intro l m hk hq _; simp at hk hq; rw [List.eq_nil_of_length_eq_zero hk.symm, List.eq_nil_of_length_eq_zero hq.symm]
  | cons q ks ih =>
    intro l m hk hq h
    cases l with
    | nil => simp at hk
    | cons a l =>
      cases m with
      | nil => simp at hq
      | cons b m =>
        simp only [List.zip_cons_cons, List.map_cons, List.cons.injEq, Value.int.injEq, true_and] at h
        rw [h.1, ih _ _ (by simpa using hk) (by simpa using hq) h.2]
theorem val_inj {kt : KT} {k q : Key} (hk : k.fits kt = true) (hq : q.fits kt = true) (h : k.val kt = q.val kt) : k = q := by
  cases kt <;> cases k <;> simp only [Key.fits, Bool.false_eq_true, beq_iff_eq] at hk <;> cases q <;> simp only [Key.fits, Bool.false_eq_true, beq_iff_eq] at hq <;> simp only [Key.val, Value.int.injEq, Value.string.injEq, Value.bool.injEq, true_and, Value.agg.injEq] at h
  · rw [h]
  · rw [ba_inj.1 h]
  · rw [h]
  · rename_i ks l m
    rw [nums_inj ks l m hk hq (by simpa using congrArg Array.toList h)]
theorem nums_leaves {ks : List IntKind} {l : List Int} (h : ks.length = l.length) : Leaves (ks.map .int) ((ks.zip l).map fun x => Value.int x.1 x.2).toArray := by
  intro i q hq
  rw [List.getElem?_map, Option.map_eq_some_iff] at hq
  obtain ⟨k, hk, rfl⟩ := hq
  have hi : i < ks.length := (List.getElem?_eq_some_iff.1 hk).1
  refine ⟨.int k (l[i]'(by omega)), ?_, l[i]'(by omega), rfl⟩
  simp only [List.getElem?_toArray, List.getElem?_map]
  rw [List.getElem?_eq_getElem (by simp; omega)]
  simp only [List.getElem_zip, Option.map_some]
  have : ks[i] = k := (List.getElem?_eq_some_iff.1 hk).2
  rw [this]
theorem run_checkKey {kt : KT} {kT : TypeId} {k : Key} {b : Bool} (h : kt.of P kT) (hf : k.fits kt = true) (w : World) : (Instr.checkKey b 10000 kT (k.val kt)).run P w = .ok () w := by
  cases kt <;> cases k <;> simp only [Key.fits, Bool.false_eq_true, beq_iff_eq] at hf <;> simp only [KT.of] at h
  · exact checkKey_leaf (n := 9999) (l := .int _) (by rw [h]; rfl) w
  · exact checkKey_leaf (n := 9999) (l := .str) (by rw [h]; rfl) w
  · exact checkKey_leaf (n := 9999) (l := .bool) (by rw [h]; rfl) w
  · exact checkKey_leaves h.1 (nums_leaves hf) w
theorem V_pair {n : Nat} {G : Ghost} {x y : AV} {u v : Value} (h : V n G x u) (k : V n G y v) : V n G (.tup [x, y]) (.tuple #[u, v]) := by
  simp only [V, Vcells, and_true]
  exact ⟨_, rfl, rfl, ⟨u, rfl, h⟩, v, rfl, k⟩
theorem findNow_ok {kt : KT} {kT : TypeId} {d : TypeDesc} (h : kt.of P kT) (hd : P.underlying kT = some d) (hno : ∀ l, kt ≠ .nums l) {k : Key} (hf : k.fits kt = true) : ∀ (es : List (Key × AV)) (ms : List MapEntry) (j : Nat), ms.length = es.length → (∀ (i : Nat) (x : Key × AV), es[i]? = some x → x.1.fits kt = true ∧ ∃ m, ms[i]? = some m ∧ m.key = x.1.val kt) →
    Instr.findNow d (k.val kt) ms j = some ((mfind es k).bind fun i => (ms[i]?).map fun m => (i + j, m.val)) := by
  intro es
  induction es with
  | nil =>
    intro ms j hl _
    have : ms = [] := List.eq_nil_of_length_eq_zero hl
    subst this
    rfl
  | cons x r ih =>
    intro ms j hl hm
    cases ms with
    | nil => simp at hl
    | cons m ms =>
      obtain ⟨q, u⟩ := x
      obtain ⟨hfq, m', hm', hkey⟩ := hm 0 (q, u) rfl
      simp at hm'
      subst hm'
      have ih' := ih ms (j + 1) (by simpa using hl) (fun i x hx => by simpa using hm (i + 1) x (by simpa using hx))
      have hsame : Instr.sameNow d (k.val kt) (q.val kt) = some (decide (k = q)) := by
        cases kt <;> cases k <;> simp only [Key.fits, Bool.false_eq_true] at hf <;> cases q <;> simp only [Key.fits, Bool.false_eq_true] at hfq <;> simp only [KT.of] at h
        · rw [under_int h] at hd; cases hd; simp only [Key.val, Instr.sameNow, if_true, Key.int.injEq]; rfl
        · rw [under_string h] at hd; cases hd; simp only [Key.val, Instr.sameNow, Key.str.injEq, ba_beq]
        · rw [under_bool h] at hd; cases hd; simp only [Key.val, Instr.sameNow, Key.bool.injEq]; rfl
        · exact absurd rfl (hno _)
      simp only [Instr.findNow, hkey, hsame, mfind]
      by_cases hkq : k = q
      · simp [hkq]
      · simp only [hkq, decide_false, if_false, ih']
        cases mfind r k with
        | none => rfl
        | some i => simp only [Option.map_some, Option.bind_some, List.getElem?_cons_succ]; congr 2; funext m; rw [Nat.add_right_comm]; rfl
theorem equal_key {kT : TypeId} {ks : List IntKind} {l m : List Int} (h : (KT.nums ks).of P kT) (hl : ks.length = l.length) (hm : ks.length = m.length) (w : World) :
    (Op.equal kT ((Key.nums l).val (.nums ks)) ((Key.nums m).val (.nums ks))).run P w = .ok (decide (l = m)) w := by
  have := equal_leaves h.1 h.2 (nums_leaves hl) (nums_leaves hm) w
  rw [show Op.equal kT ((Key.nums l).val (.nums ks)) ((Key.nums m).val (.nums ks)) = Op.equalIn 10000 kT (.agg ((ks.zip l).map fun x => Value.int x.1 x.2).toArray) (.agg ((ks.zip m).map fun x => Value.int x.1 x.2).toArray) from rfl, this]
  congr 1
  rw [Bool.eq_iff_iff, List.all_eq_true, decide_eq_true_iff]
  have get : ∀ (l : List Int) (hl : ks.length = l.length) (i : Nat) (hi : i < ks.length), (((ks.zip l).map fun x => Value.int x.1 x.2).toArray).getD i undef = .int ks[i] (l[i]'(by omega)) := by
    intro l hl i hi
    rw [Array.getD_eq_getD_getElem?]
    simp only [List.getElem?_toArray, List.getElem?_map]
    rw [List.getElem?_eq_getElem (by simp; omega)]
    simp
  constructor
  · intro hall
    refine List.ext_getElem (by omega) fun i h1 h2 => ?_
    have := hall i (List.mem_range.2 (by simp; omega))
    unfold leavesEq at this
    rw [get l hl i (by omega), get m hm i (by omega)] at this
    simpa [leafEq] using this
  · rintro rfl i hi
    have hi' : i < ks.length := by simpa using List.mem_range.1 hi
    unfold leavesEq
    rw [get l hl i hi']
    simp [leafEq]
theorem findAsking_ok {kT : TypeId} {ks : List IntKind} (h : (KT.nums ks).of P kT) {l : List Int} (hf : ks.length = l.length) (w : World) : ∀ (es : List (Key × AV)) (ms : List MapEntry) (j : Nat), ms.length = es.length → (∀ (i : Nat) (x : Key × AV), es[i]? = some x → x.1.fits (.nums ks) = true ∧ ∃ m, ms[i]? = some m ∧ m.key = x.1.val (.nums ks)) →
    (Instr.findAsking kT ((Key.nums l).val (.nums ks)) ms j).run P w = .ok ((mfind es (.nums l)).bind fun i => (ms[i]?).map fun m => (i + j, m.val)) w := by
  intro es
  induction es with
  | nil =>
    intro ms j hl _
    have : ms = [] := List.eq_nil_of_length_eq_zero hl
    subst this
    rfl
  | cons x r ih =>
    intro ms j hl hm
    cases ms with
    | nil => simp at hl
    | cons m ms =>
      obtain ⟨q, u⟩ := x
      obtain ⟨hfq, m', hm', hkey⟩ := hm 0 (q, u) rfl
      simp at hm'
      subst hm'
      cases q <;> simp only [Key.fits, Bool.false_eq_true, beq_iff_eq] at hfq
      rename_i q
      have ih' := ih ms (j + 1) (by simpa using hl) (fun i x hx => by simpa using hm (i + 1) x (by simpa using hx))
      rw [Instr.findAsking]
      simp only [bindRun, hkey, equal_key h hf hfq, mfind, Key.nums.injEq]
      by_cases hkq : l = q
      · simp [hkq, pureRun]
      · simp only [hkq, decide_false, Bool.false_eq_true, if_false, ih']
        cases mfind r (.nums l) with
        | none => rfl
        | some i => simp only [Option.map_some, Option.bind_some, List.getElem?_cons_succ]; congr 2; funext m; rw [Nat.add_right_comm]; rfl
theorem kt_under {kt : KT} {kT : TypeId} (h : kt.of P kT) : ∃ d, P.underlying kT = some d := by
  cases kt <;> simp only [KT.of] at h
  · exact ⟨_, under_int h⟩
  · exact ⟨_, under_string h⟩
  · exact ⟨_, under_bool h⟩
  · obtain ⟨h, _⟩ := h
    unfold leaves at h
    split at h
    · rename_i fs hd; obtain ⟨gs, hg, _⟩ := under_struct hd; exact ⟨_, hg⟩
    · rename_i n el hd; exact ⟨_, under_array hd⟩
    · cases h
theorem run_findKey' {kt : KT} {kT : TypeId} (hk : kt.of P kT) {k : Key} (hf : k.fits kt = true) {es : List (Key × AV)} {ms : Array MapEntry} (hl : ms.size = es.length) (hm : ∀ (i : Nat) (x : Key × AV), es[i]? = some x → x.1.fits kt = true ∧ ∃ m, ms[i]? = some m ∧ m.key = x.1.val kt) (w : World) :
    (Instr.findKey kT (k.val kt) ms.toList).run P w = .ok ((mfind es k).bind fun i => (ms[i]?).map fun m => (i, m.val)) w := by
  obtain ⟨d, hd⟩ := kt_under hk
  have hm' : ∀ (i : Nat) (x : Key × AV), es[i]? = some x → x.1.fits kt = true ∧ ∃ m, ms.toList[i]? = some m ∧ m.key = x.1.val kt := fun i x hx => by
    obtain ⟨a1, m, a2, a3⟩ := hm i x hx
    exact ⟨a1, m, by simpa using a2, a3⟩
  by_cases hno : ∀ l, kt ≠ .nums l
  · have := findNow_ok hk hd hno hf es ms.toList 0 (by simpa using hl) hm'
    simp only [Instr.findKey, bindRun, run_underlying hd, this]
    simp only [Nat.add_zero, pureRun, Array.getElem?_toList]
  · obtain ⟨ks, rfl⟩ : ∃ l, kt = .nums l := by
      cases kt with
      | nums l => exact ⟨l, rfl⟩
      | _ => exact absurd (fun l => by simp) hno
    cases k <;> simp only [Key.fits, Bool.false_eq_true, beq_iff_eq] at hf
    rename_i l
    simp only [Instr.findKey, bindRun, run_underlying hd]
    cases hms : ms.toList with
    | nil =>
      have : es = [] := List.eq_nil_of_length_eq_zero (by rw [← hl, ← Array.length_toList, hms]; rfl)
      subst this
      rfl
    | cons m r =>
      have hag : ∃ gs, d = .struct gs ∨ ∃ n el, d = .array n el := by
        have h1 := hk.1
        unfold leaves at h1
        split at h1
        · rename_i fs hdd; obtain ⟨gs, hg, _⟩ := under_struct hdd; rw [hd] at hg; cases hg; exact ⟨gs, .inl rfl⟩
        · rename_i n el hdd; have hg := under_array hdd; rw [hd] at hg; cases hg; exact ⟨#[], .inr ⟨_, _, rfl⟩⟩
        · cases h1
      have hnone : Instr.findNow d ((Key.nums l).val (.nums ks)) (m :: r) 0 = none := by
        obtain ⟨gs, rfl | ⟨n, el, rfl⟩⟩ := hag <;> simp only [Instr.findNow, Instr.sameNow, Key.val]
      rw [hnone]
      have := findAsking_ok hk hf w es ms.toList 0 (by simpa using hl) hm'
      rw [hms] at this
      simp only
      rw [this]
      simp only [Nat.add_zero]
      congr 2
      funext i
      rw [← Array.getElem?_toList, hms]

/-- A map's entries in the order in which they lie in memory. -/
theorem RelMap.order {n : Nat} {G : Ghost} {b : Key → Option Nat} {kt : KT} {es : List (Key × AV)} {ms : Array MapEntry} (h : RelMap n G b kt es ms) :
    ∃ es0 : List (Key × AV), es0.length = ms.size ∧ (∀ (i : Nat) (x : Key × AV), es0[i]? = some x → x ∈ es ∧ b x.1 = some i ∧ x.1.fits kt = true ∧ ∃ m, ms[i]? = some m ∧ m.key = x.1.val kt ∧ V n G x.2 m.val) ∧ ∀ x ∈ es, x ∈ es0 := by
  have key : ∀ i : Fin ms.size, ∃ x ∈ es, b x.1 = some i.1 := fun i => h.back i.1 ms[i] (by simp)
  let f : Fin ms.size → Key × AV := fun i => Classical.choose (key i)
  have hf : ∀ i, f i ∈ es ∧ b (f i).1 = some i.1 := fun i => Classical.choose_spec (key i)
  have hget : ∀ (i : Nat) (x : Key × AV), (List.ofFn f)[i]? = some x → x ∈ es ∧ b x.1 = some i := by
    intro i x hx
    rw [List.getElem?_ofFn] at hx
    split at hx
    · rename_i hi; cases hx; exact hf ⟨i, hi⟩
    · cases hx
  refine ⟨List.ofFn f, by simp, fun i x hx => ?_, fun x hx => ?_⟩
  · obtain ⟨h1, h2⟩ := hget i x hx
    obtain ⟨j, m, a1, a2, a3, a4⟩ := h.entry x h1
    rw [h2] at a1
    cases a1
    exact ⟨h1, h2, h.fits x h1, m, a2, a3, a4⟩
  · obtain ⟨j, m, a1, a2, a3, a4⟩ := h.entry x hx
    have hj : j < ms.size := (Array.getElem?_eq_some_iff.1 a2).1
    have hfx : f ⟨j, hj⟩ = x := by
      obtain ⟨h1, h2⟩ := hf ⟨j, hj⟩
      obtain ⟨j', m', b1, b2, b3, b4⟩ := h.entry _ h1
      rw [h2] at b1
      cases b1
      rw [a2] at b2
      cases b2
      have hk : (f ⟨j, hj⟩).1 = x.1 := val_inj (h.fits _ h1) (h.fits _ hx) (by rw [← b3, ← a3])
      have e1 : mget es (f ⟨j, hj⟩).1 = some (f ⟨j, hj⟩).2 := mget_of_mem h.nodup h1
      have e2 : mget es x.1 = some x.2 := mget_of_mem h.nodup hx
      rw [hk, e2] at e1
      exact Prod.ext hk (by simpa using e1.symm)
    rw [← hfx]
    exact List.mem_ofFn.2 ⟨_, rfl⟩
theorem RelMap.find {n : Nat} {G : Ghost} {b : Key → Option Nat} {kt : KT} {kT : TypeId} {es : List (Key × AV)} {ms : Array MapEntry} (h : RelMap n G b kt es ms) (hk : kt.of P kT) {k : Key} (hf : k.fits kt = true) :
    (mget es k = none ∧ k ∉ es.map (·.1) ∧ ∀ w, (Instr.findKey kT (k.val kt) ms.toList).run P w = .ok none w) ∨
    ∃ v i m, mget es k = some v ∧ b k = some i ∧ ms[i]? = some m ∧ m.key = k.val kt ∧ V n G v m.val ∧ ∀ w, (Instr.findKey kT (k.val kt) ms.toList).run P w = .ok (some (i, m.val)) w := by
  obtain ⟨es0, h1, h2, h3⟩ := h.order
  have hrun := run_findKey' (es := es0) (ms := ms) hk hf h1.symm (fun i x hx => by obtain ⟨_, _, a1, m, a2, a3, _⟩ := h2 i x hx; exact ⟨a1, m, a2, a3⟩)
  cases hm : mfind es0 k with
  | none =>
    left
    have hk0 : k ∉ es.map (·.1) := by
      intro hmem
      obtain ⟨x, hx, rfl⟩ := List.mem_map.1 hmem
      have : mget es0 x.1 = none := by rw [mget_of_find, hm]; rfl
      exact mget_none_iff this (List.mem_map_of_mem (f := (·.1)) (h3 x hx))
    refine ⟨mget_none hk0, hk0, fun w => ?_⟩
    rw [hrun w, hm]
    rfl
  | some i =>
    right
    obtain ⟨_, u, hu⟩ := mput_of_some es0 k .junk i hm
    obtain ⟨a0, a1, a2, m, a3, a4, a5⟩ := h2 i _ hu
    refine ⟨u, i, m, mget_of_mem h.nodup a0, a1, a3, a4, a5, fun w => ?_⟩
    rw [hrun w, hm]
    simp [a3]

/-- What holds of a map's block. -/
theorem Rel.mapAt {G : Ghost} {w : World} (hR : Rel G H w) {id : Nat} {kt : KT} {es : List (Key × AV)} (hH : H[id]? = some (.map kt es)) : ∃ ms, w.heap[(G.loc id).block]? = some (.map ms ms.size) ∧ RelMap H.length G (G.born id) kt es ms := (hR.obj id _ hH).2
/-- A look-up in a map of one's own. -/
theorem exec_lookup {t kT eT : TypeId} {x ix : Operand} {ok : Bool} {id : Nat} {kt : KT} {es : List (Key × AV)} {y : AV} {k : Key} (ho : o.op = .lookup t x ix ok) (hx : e.ev x = .map id) (hy : e.ev ix = y) (hk : y.key kt = some k) (hH : H[id]? = some (.map kt es))
    (ht : (P.ti t).d = .map kT eT) (hkt : kt.of P kT) (hz : (P.ti eT).zero ≠ .junk) :
    Exec P o e H (if ok = true then .tup [(mget es k).getD (P.ti eT).zero, .bool (mget es k).isSome] else (mget es k).getD (P.ti eT).zero) H :=
  .of_run fun N G a w hR hE => by
    have h1 := hE.ev x
    have h2 := hE.ev ix
    rw [hx] at h1
    rw [hy] at h2
    simp only [V] at h1
    obtain ⟨hid, hfx, hv⟩ := h1
    obtain ⟨hkv, hkf⟩ := key_val h2 hk
    obtain ⟨ms, hw, hm⟩ := hR.mapAt hH
    obtain ⟨z, hz1, hz2⟩ := run_zero hz w
    have hgo : (getObj (G.loc id).block).run P w = .ok (.map ms ms.size) w := by simp only [getObj, Sem.run, hw]
    rcases hm.find hkt hkf with ⟨g1, _, g2⟩ | ⟨u, i, m, g1, _, g2, _, g3, g4⟩
    · rw [g1]
      refine ⟨if ok then .tuple #[z, .bool false] else z, ?_, ?_⟩
      · simp only [execOp, ho]
        refine run_value P _ w w _ ?_
        simp only [Instr.lookup, bindRun, pureRun, run_underlying (under_map ht), hv, hgo, hkv, run_checkKey hkt hkf, g2 w, hz1]
      · have hzv : V H.length G (P.ti eT).zero z := by rw [hz2]; exact V_ofVal _ _ _ _
        cases ok
        · exact hzv
        · exact V_pair hzv (by simp only [V]; rfl)
    · rw [g1]
      refine ⟨if ok then .tuple #[m.val, .bool true] else m.val, ?_, ?_⟩
      · simp only [execOp, ho]
        refine run_value P _ w w _ ?_
        simp only [Instr.lookup, bindRun, pureRun, run_underlying (under_map ht), hv, hgo, hkv, run_checkKey hkt hkf, g4 w]
      · simp only [Option.getD_some, Option.isSome_some]
        cases ok
        · exact g3
        · exact V_pair g3 (by simp only [V])
theorem exec_lookup_nil {t kT eT : TypeId} {x ix : Operand} {ok : Bool} {kt : KT} {y : AV} {k : Key} (ho : o.op = .lookup t x ix ok) (hx : e.ev x = .nilM) (hy : e.ev ix = y) (hk : y.key kt = some k)
    (ht : (P.ti t).d = .map kT eT) (hkt : kt.of P kT) (hz : (P.ti eT).zero ≠ .junk) : Exec P o e H (if ok = true then .tup [(P.ti eT).zero, .bool false] else (P.ti eT).zero) H :=
  .of_run fun N G a w hR hE => by
    have h1 := hE.ev x
    have h2 := hE.ev ix
    rw [hx] at h1
    rw [hy] at h2
    simp only [V] at h1
    obtain ⟨hkv, hkf⟩ := key_val h2 hk
    obtain ⟨z, hz1, hz2⟩ := run_zero hz w
    obtain ⟨d, hd⟩ := kt_under hkt
    have hzv : V H.length G (P.ti eT).zero z := by rw [hz2]; exact V_ofVal _ _ _ _
    refine ⟨if ok then .tuple #[z, .bool false] else z, ?_, ?_⟩
    · simp only [execOp, ho]
      refine run_value P _ w w _ ?_
      simp only [Instr.lookup, bindRun, pureRun, run_underlying (under_map ht), h1, hkv, run_checkKey hkt hkf, Instr.findKey, run_underlying hd, Instr.findNow, hz1]
    · cases ok
      · exact hzv
      · exact V_pair hzv (by simp only [V])

theorem zip_all_same {n : Nat} : ∀ l : List (IntKind × Int), ((l.map fun x => Value.int x.1 x.2).zip (l.map fun x => Value.int x.1 x.2)).all (fun x => Instr.sameBits n x.1 x.2) = true := by
  intro l
  induction l with
  | nil => rfl
  | cons x l ih => simp only [List.map_cons, List.zip_cons_cons, List.all_cons, ih, Bool.and_true]; cases n <;> simp [Instr.sameBits]
theorem sameBits_val {kt : KT} {k : Key} (hf : k.fits kt = true) : Instr.sameBits 10000 (k.val kt) (k.val kt) = true := by
  show Instr.sameBits (9999 + 1) _ _ = true
  cases kt <;> cases k <;> simp only [Key.fits, Bool.false_eq_true] at hf
  · simp [Key.val, Instr.sameBits]
  · simp [Key.val, Instr.sameBits, ba_beq]
  · simp [Key.val, Instr.sameBits]
  · simp only [Key.val, Instr.sameBits, beq_self_eq_true, Bool.true_and]
    exact zip_all_same _
/-- What a map's list of entries becomes by a store. -/
structure Upd (es : List (Key × AV)) (k : Key) (z : AV) (es' : List (Key × AV)) : Prop where
  nodup : (es'.map (·.1)).Nodup
  mem : ∀ x, x ∈ es' ↔ x = (k, z) ∨ (x ∈ es ∧ x.1 ≠ k)
  size : es'.length = if k ∈ es.map (·.1) then es.length else es.length + 1
theorem Rel.putB {G : Ghost} {H : Heap} {w w' : World} (h : Rel G H w) (id : Nat) (o o' : AObj) (B : Key → Option Nat) (hid : H[id]? = some o) (hB : ∀ k b, G.born id k = some b → B k = some b) (hs : w.heap.size ≤ w'.heap.size)
    (hL : owns (G.loc id) o' = true → owns (G.loc id) o = true)
    (hw : ∀ b, b < w.heap.size → (owns (G.loc id) o = true → b ≠ (G.loc id).block) → w'.heap[b]? = w.heap[b]?) (hos : w'.os = w.os ∧ w'.tape = w.tape ∧ w'.output = w.output)
    (ho : RelObj H.length (G.bear id B) w' (G.loc id) B o') : Rel (G.bear id B) (H.set id o') w' ∧ Step H.length (H.set id o').length G w (G.bear id B) w' := by
  have hlt : id < H.length := by rw [List.getElem?_eq_some_iff] at hid; exact hid.1
  have hE : Ext H.length H.length G (G.bear id B) := ⟨Nat.le_refl _, fun _ _ h => h, fun _ _ => Nat.le_refl _, fun _ _ _ => rfl, fun _ _ _ => rfl, fun j hj k b hb => by
    by_cases e : j = id
    · subst e; rw [Ghost.bear_same]; exact hB k b hb
    · rw [Ghost.bear_other _ _ e]; exact hb⟩
  have hset : ∀ {j x}, (H.set id o')[j]? = some x → (j ≠ id ∧ H[j]? = some x) ∨ (j = id ∧ x = o') := by
    intro j x hx
    rw [List.getElem?_set] at hx
    split at hx
    · rename_i e
      subst e
      simp at hx
      exact .inr ⟨rfl, hx.symm⟩
    · rename_i e
      exact .inl ⟨fun k => e k.symm, hx⟩
  have hown : ∀ j x, (H.set id o')[j]? = some x → owns (G.loc j) x = true → ∃ y, H[j]? = some y ∧ owns (G.loc j) y = true := by
    intro j x hx hon
    rcases hset hx with ⟨_, hx⟩ | ⟨rfl, rfl⟩
    · exact ⟨x, hx, hon⟩
    · exact ⟨o, hid, hL hon⟩
  refine ⟨⟨?_, ?_, ?_, ?_⟩, ⟨by simpa using hE, hos.1, hos.2.1, hos.2.2, hs⟩⟩
  · intro b x hb
    have := h.snap b x hb
    rw [hw b (by rw [Array.getElem?_eq_some_iff] at this; exact this.1) (fun hon e => by
      have := (h.own id o hid hon).1
      rw [← e] at this
      simp only [Ghost.bear_snap] at hb
      rw [this] at hb; cases hb)]
    exact this
  · intro j x hx
    simp only [List.length_set, Ghost.bear_loc]
    rcases hset hx with ⟨hne, hx⟩ | ⟨rfl, rfl⟩
    · rw [Ghost.bear_other _ _ hne]
      refine (h.obj j x hx).mono hE fun hon => hw _ (h.own j x hx hon).2 fun hon' => h.apart j id x o hne hx hid hon hon'
    · rw [Ghost.bear_same]
      exact ho
  · intro j x hx hon
    obtain ⟨y, hy, hon'⟩ := hown j x hx hon
    have := h.own j y hy hon'
    exact ⟨this.1, Nat.lt_of_lt_of_le this.2 hs⟩
  · intro i j oi oj hne hi hj oni onj
    obtain ⟨y, hy, hy'⟩ := hown i oi hi oni
    obtain ⟨z, hz, hz'⟩ := hown j oj hj onj
    exact h.apart i j y z hne hy hz hy' hz'
/-- A store into a map of one's own. -/
theorem exec_mapUpdate' {t kT eT : TypeId} {m ix x : Operand} {id : Nat} {kt : KT} {es es' : List (Key × AV)} {y z : AV} {k : Key} (ho : o.op = .mapUpdate t m ix x ∨ o.op = .insert t m ix x) (hm : e.ev m = .map id) (hy : e.ev ix = y) (hk : y.key kt = some k) (hx : e.ev x = z) (hH : H[id]? = some (.map kt es))
    (ht : (P.ti t).d = .map kT eT) (hkt : kt.of P kT) (hu : Upd es k z es') : Exec P o e H (.tup []) (H.set id (.map kt es')) := by
  intro N G a w hR hE
  have h1 := hE.ev m
  have h2 := hE.ev ix
  have h3 := hE.ev x
  rw [hm] at h1
  rw [hy] at h2
  rw [hx] at h3
  simp only [V] at h1
  obtain ⟨hid, hfx, hv⟩ := h1
  obtain ⟨hkv, hkf⟩ := key_val h2 hk
  obtain ⟨ms, hw, hms⟩ := hR.mapAt hH
  have hgo : (getObj (G.loc id).block).run P w = .ok (.map ms ms.size) w := by simp only [getObj, Sem.run, hw]
  have hset : ∀ x : Obj, (setObj (G.loc id).block x).run P w = .ok () { w with heap := w.heap.setIfInBounds (G.loc id).block x } := by intro x; simp only [setObj, Sem.run, hw]
  have hlt : (G.loc id).block < w.heap.size := by rw [Array.getElem?_eq_some_iff] at hw; exact hw.1
  have fin : ∀ (ms' : Array MapEntry) (B : Key → Option Nat), (Instr.mapUpdate t (a.eval m) (a.eval ix) (a.eval x)).run P w = .ok () { w with heap := w.heap.setIfInBounds (G.loc id).block (.map ms' ms'.size) } →
      (∀ q b, G.born id q = some b → B q = some b) → (∀ G', Ext H.length H.length G G' → RelMap H.length G' B kt es' ms') →
      ∃ r v w' G', (execOp a.eval o).run P w = .ok r w' ∧ (r = .value v ∨ (r = .skip ∧ v = undef)) ∧ V (H.set id (.map kt es')).length G' (.tup []) v ∧ Rel G' (H.set id (.map kt es')) w' ∧ Step H.length (H.set id (.map kt es')).length G w G' w' := by
    intro ms' B hrun hB hok
    have hE' : Ext H.length H.length G (G.bear id B) := ⟨Nat.le_refl _, fun _ _ h => h, fun _ _ => Nat.le_refl _, fun _ _ _ => rfl, fun _ _ _ => rfl, fun j hj k b hb => by
      by_cases e : j = id
      · subst e; rw [Ghost.bear_same]; exact hB k b hb
      · rw [Ghost.bear_other _ _ e]; exact hb⟩
    have hRp := hR.putB (w' := { w with heap := w.heap.setIfInBounds (G.loc id).block (.map ms' ms'.size) }) id _ (.map kt es') B hH hB (by simp) (fun _ => rfl)
      (fun b _ hne => by simp only [Array.getElem?_setIfInBounds]; rw [if_neg (fun e => hne rfl e.symm)]) ⟨rfl, rfl, rfl⟩
      ⟨hfx, ms', by simp [hlt], hok _ hE'⟩
    refine ⟨.skip, undef, _, _, ?_, .inr ⟨rfl, rfl⟩, ptr_one, hRp⟩
    rcases ho with ho | ho
    · simp only [execOp, ho]
      exact run_unit P _ w _ hrun
    · simp only [execOp, ho]
      exact run_unit P _ w _ hrun
  rcases hms.find hkt hkf with ⟨g1, g2, g3⟩ | ⟨u, i, mm, g1, g2, g3, g4, g5, g6⟩
  · have hbk : G.born id k = none := by
      cases hb : G.born id k with
      | none => rfl
      | some i => exact absurd (hms.only k i hb) g2
    refine fin (ms.push { key := k.val kt, val := a.eval x, born := ms.size }) (fun q => if q = k then some ms.size else G.born id q) ?_ ?_ ?_
    · simp only [Instr.mapUpdate, bindRun, run_underlying (under_map ht), hv, hgo, hkv, run_checkKey hkt hkf, g3 w, hset, Array.size_push]
    · intro q b hb
      rw [if_neg (fun e => by subst e; rw [hbk] at hb; cases hb)]
      exact hb
    · intro G' hE'
      have hms' := hms.mono hE'
      refine ⟨by rw [Array.size_push, hu.size, if_neg g2, hms.size], fun i m hi => ?_, hu.nodup, fun x hx => ?_, fun x hx => ?_, fun i m hi => ?_, fun q i hq => ?_⟩
      · rw [Array.getElem?_push] at hi
        split at hi
        · rename_i e; cases hi; exact e.symm
        · exact hms.born i m hi
      · rcases (hu.mem x).1 hx with rfl | ⟨hx, _⟩
        · exact hkf
        · exact hms.fits x hx
      · rcases (hu.mem x).1 hx with rfl | ⟨hx, hne⟩
        · exact ⟨ms.size, _, by rw [if_pos rfl], by rw [Array.getElem?_push, if_pos rfl], rfl, V.mono hE' _ _ h3⟩
        · obtain ⟨i, m, a1, a2, a3, a4⟩ := hms'.entry x hx
          exact ⟨i, m, by rw [if_neg hne]; exact a1, by rw [Array.getElem?_push, if_neg (fun e => by have := (Array.getElem?_eq_some_iff.1 a2).1; omega)]; exact a2, a3, a4⟩
      · rw [Array.getElem?_push] at hi
        split at hi
        · rename_i e; subst e; exact ⟨(k, z), (hu.mem _).2 (.inl rfl), by rw [if_pos rfl]⟩
        · obtain ⟨x, hx, hb⟩ := hms.back i m hi
          have hne : x.1 ≠ k := fun e => by rw [e, hbk] at hb; cases hb
          exact ⟨x, (hu.mem x).2 (.inr ⟨hx, hne⟩), by rw [if_neg hne]; exact hb⟩
      · split at hq
        · rename_i e; subst e; exact List.mem_map.2 ⟨(q, z), (hu.mem _).2 (.inl rfl), rfl⟩
        · rename_i hne
          obtain ⟨x, hx, rfl⟩ := List.mem_map.1 (hms.only q i hq)
          exact List.mem_map.2 ⟨x, (hu.mem x).2 (.inr ⟨hx, hne⟩), rfl⟩
  · have hkm : k ∈ es.map (·.1) := List.mem_map.2 ⟨(k, u), mget_mem g1, rfl⟩
    have hstay : (Instr.keyThatStays (((ms[i]?).map (·.key)).getD (k.val kt)) (k.val kt)).run P w = .ok (k.val kt) w := by
      rw [g3]
      simp only [Option.map_some, Option.getD_some, g4, Instr.keyThatStays, sameBits_val hkf, if_true, pureRun]
    refine fin (ms.modify i fun e => { e with key := k.val kt, val := a.eval x }) (G.born id) ?_ (fun _ _ h => h) ?_
    · simp only [Instr.mapUpdate, bindRun, run_underlying (under_map ht), hv, hgo, hkv, run_checkKey hkt hkf, g6 w, hstay, hset, Array.size_modify]
    · intro G' hE'
      have hms' := hms.mono hE'
      have other : ∀ (x : Key × AV) (j : Nat), x ∈ es → x.1 ≠ k → G.born id x.1 = some j → j ≠ i := by
        rintro x j hx hne hb rfl
        obtain ⟨j', m', a1, a2, a3, _⟩ := hms.entry x hx
        rw [hb] at a1
        cases a1
        rw [g3] at a2
        cases a2
        exact hne (val_inj (hms.fits x hx) hkf (by rw [← a3, g4]))
      refine ⟨by rw [Array.size_modify, hu.size, if_pos hkm, hms.size], fun j m hj => ?_, hu.nodup, fun x hx => ?_, fun x hx => ?_, fun j m hj => ?_, fun q j hq => ?_⟩
      · rw [Array.getElem?_modify] at hj
        split at hj
        · rename_i e
          rw [Option.map_eq_some_iff] at hj
          obtain ⟨m', h1, rfl⟩ := hj
          exact hms.born j m' h1
        · exact hms.born j m hj
      · rcases (hu.mem x).1 hx with rfl | ⟨hx, _⟩
        · exact hkf
        · exact hms.fits x hx
      · rcases (hu.mem x).1 hx with rfl | ⟨hx, hne⟩
        · exact ⟨i, _, g2, by rw [Array.getElem?_modify, if_pos rfl, g3]; rfl, rfl, V.mono hE' _ _ h3⟩
        · obtain ⟨j, m, a1, a2, a3, a4⟩ := hms'.entry x hx
          exact ⟨j, m, a1, by rw [Array.getElem?_modify, if_neg (fun e => other x j hx hne a1 e.symm)]; exact a2, a3, a4⟩
      · rw [Array.getElem?_modify] at hj
        split at hj
        · rename_i e
          subst e
          exact ⟨(k, z), (hu.mem _).2 (.inl rfl), g2⟩
        · rename_i hne
          obtain ⟨x, hx, hb⟩ := hms.back j m hj
          have hxk : x.1 ≠ k := fun e => by rw [e, g2] at hb; cases hb; exact hne rfl
          exact ⟨x, (hu.mem x).2 (.inr ⟨hx, hxk⟩), hb⟩
      · by_cases e : q = k
        · subst e; exact List.mem_map.2 ⟨(q, z), (hu.mem _).2 (.inl rfl), rfl⟩
        · obtain ⟨x, hx, rfl⟩ := List.mem_map.1 (hms.only q j hq)
          exact List.mem_map.2 ⟨x, (hu.mem x).2 (.inr ⟨hx, e⟩), rfl⟩
theorem upd_mput {es : List (Key × AV)} (hn : (es.map (·.1)).Nodup) (k : Key) (z : AV) : Upd es k z (mput es k z) := by
  induction es with
  | nil => exact ⟨by simp [mput], by simp [mput], by simp [mput]⟩
  | cons x r ih =>
    obtain ⟨q, u⟩ := x
    simp only [List.map_cons, List.nodup_cons] at hn
    have ih := ih hn.2
    simp only [mput]
    split
    · rename_i e
      subst e
      refine ⟨by simpa using hn, fun x => ?_, by simp⟩
      constructor
      · intro hx
        rcases List.mem_cons.1 hx with rfl | hx
        · exact .inl rfl
        · exact .inr ⟨List.mem_cons_of_mem _ hx, fun e => hn.1 (by rw [← e]; exact List.mem_map_of_mem (f := (·.1)) hx)⟩
      · rintro (rfl | ⟨hx, hne⟩)
        · exact List.mem_cons_self
        · rcases List.mem_cons.1 hx with rfl | hx
          · exact absurd rfl hne
          · exact List.mem_cons_of_mem _ hx
    · rename_i hne
      refine ⟨?_, fun x => ?_, ?_⟩
      · simp only [List.map_cons, List.nodup_cons]
        refine ⟨fun hm => ?_, ih.nodup⟩
        obtain ⟨y, hy, hq⟩ := List.mem_map.1 hm
        rcases (ih.mem y).1 hy with rfl | ⟨hy, _⟩
        · exact hne hq
        · exact hn.1 (by rw [← hq]; exact List.mem_map_of_mem (f := (·.1)) hy)
      · simp only [List.mem_cons, ih.mem]
        constructor
        · rintro (rfl | rfl | ⟨h1, h2⟩)
          · exact .inr ⟨.inl rfl, fun e => hne e.symm⟩
          · exact .inl rfl
          · exact .inr ⟨.inr h1, h2⟩
        · rintro (rfl | ⟨rfl | h1, h2⟩)
          · exact .inr (.inl rfl)
          · exact .inl rfl
          · exact .inr (.inr ⟨h1, h2⟩)
      · simp only [List.length_cons, ih.size, List.map_cons, List.mem_cons, hne, false_or]
        split <;> rfl
theorem exec_mapUpdate {t kT eT : TypeId} {m ix x : Operand} {id : Nat} {kt : KT} {es : List (Key × AV)} {y z : AV} {k : Key} (ho : o.op = .mapUpdate t m ix x ∨ o.op = .insert t m ix x) (hm : e.ev m = .map id) (hy : e.ev ix = y) (hk : y.key kt = some k) (hx : e.ev x = z) (hH : H[id]? = some (.map kt es))
    (ht : (P.ti t).d = .map kT eT) (hkt : kt.of P kT) : Exec P o e H (.tup []) (H.set id (.map kt (mput es k z))) := fun N G a w hR hE => by
  obtain ⟨ms, _, hms⟩ := hR.mapAt hH
  exact exec_mapUpdate' ho hm hy hk hx hH ht hkt (upd_mput hms.nodup k z) N G a w hR hE

end Go.Ab
end
