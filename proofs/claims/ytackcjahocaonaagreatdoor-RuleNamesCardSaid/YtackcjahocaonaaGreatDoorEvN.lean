/- A part of a proof: rules for reading Go code as code over plain values, and what follows for this program. Its conditions stand in each statement. -/
import Derived.Test.YtackcjahocaonaaGreatDoorEvT
import Derived.Maps.RangeRun
section
set_option linter.unusedSimpArgs false
set_option linter.unusedVariables false
/-! The next key of a map: whichever the world draws. -/
namespace Go.Ab
variable {P : Program} {o : Oper} {e : Env} {H : Heap}
/-- One operation that may end in some ways. -/
def NExec (P : Program) (o : Oper) (e : Env) (H : Heap) (l : List (AV × Heap)) : Prop :=
  ∀ (N : Fr) (G : Ghost) (a : Act) (w : World), Rel G H w → EnvRel N H.length G e a →
    ∃ y ∈ l, ∃ r v w' G', (execOp a.eval o).run P w = .ok r w' ∧ (r = .value v ∨ (r = .skip ∧ v = undef)) ∧ V y.2.length G' y.1 v ∧ Rel G' y.2 w' ∧ Step H.length y.2.length G w G' w'
theorem Exec.toN {x : AV} {H' : Heap} (h : Exec P o e H x H') : NExec P o e H [(x, H')] := fun N G a w hR hE => ⟨_, List.mem_singleton_self _, h N G a w hR hE⟩
theorem dropKey_eq (l : List Key) (k : Key) (hn : l.Nodup) (q : Key) : q ∈ dropKey l k ↔ q ∈ l ∧ q ≠ k := by
  induction l with
  | nil => simp [dropKey]
  | cons x l ih =>
    simp only [dropKey]
    obtain ⟨hx, hl⟩ := List.nodup_cons.1 hn
    split
    · rename_i h
      have := eqb_eq.1 h
      subst this
      constructor
      · intro hq; exact ⟨List.mem_cons_of_mem _ hq, fun e => hx (e ▸ hq)⟩
      · rintro ⟨hq, hne⟩
        rcases List.mem_cons.1 hq with rfl | hq
        · exact absurd rfl hne
        · exact hq
    · rename_i h
      have hne : k ≠ x := fun e => by rw [eqb_eq.2 e] at h; cases h
      rw [List.mem_cons, List.mem_cons, ih hl]
      constructor
      · rintro (rfl | ⟨h1, h2⟩)
        · exact ⟨.inl rfl, fun e => hne e.symm⟩
        · exact ⟨.inr h1, h2⟩
      · rintro ⟨rfl | h1, h2⟩
        · exact .inl rfl
        · exact .inr ⟨h1, h2⟩
theorem dropKey_nodup (l : List Key) (k : Key) (hn : l.Nodup) : (dropKey l k).Nodup := by
  induction l with
  | nil => exact hn
  | cons x l ih =>
    obtain ⟨hx, hl⟩ := List.nodup_cons.1 hn
    simp only [dropKey]
    split
    · exact hl
    · exact List.nodup_cons.2 ⟨fun h => hx ((dropKey_eq l k hl x).1 h).1, ih hl⟩
def nextOuts (H : Heap) (id m : Nat) (keys left : List Key) (kt : KT) (es : List (Key × AV)) : List (AV × Heap) := match left with
  | [] => [(.tup [.bool false], H)]
  | l => l.map fun k => (.tup [.bool true, k.av kt, (mget es k).getD .junk], H.set id (.iter m keys (dropKey left k) (some k)))
theorem nextOuts_mem {H : Heap} {id m : Nat} {keys left : List Key} {kt : KT} {es : List (Key × AV)} {k : Key} (h : k ∈ left) : (AV.tup [.bool true, k.av kt, (mget es k).getD .junk], H.set id (AObj.iter m keys (dropKey left k) (some k))) ∈ nextOuts H id m keys left kt es := by
  cases left with
  | nil => cases h
  | cons q r => exact List.mem_map.2 ⟨k, h, rfl⟩
theorem nexec_next {x : Operand} {id m : Nat} {keys left : List Key} {last : Option Key} {kt : KT} {es : List (Key × AV)} (ho : o.op = .next x false) (hx : e.ev x = .iter id) (hH : H[id]? = some (.iter m keys left last)) (hM : H[m]? = some (.map kt es))
    (hlen : keys.length = es.length) (hsub : ∀ k ∈ es.map (·.1), k ∈ keys) (hsub' : ∀ k ∈ keys, k ∈ es.map (·.1)) :
    NExec P o e H (nextOuts H id m keys left kt es) := by
  intro N G a w hR hE
  have h := hE.ev x
  rw [hx] at h
  simp only [V] at h
  obtain ⟨hid, hfx, hv⟩ := h
  obtain ⟨_, hm, hmf, seen, hw, h1, h2, h3, h8, h9⟩ := hR.obj id _ hH
  obtain ⟨ms, hwm, hms⟩ := hR.mapAt hM
  have hsz : ms.size = keys.length := by rw [hms.size, hlen]
  have hborn : ∀ y ∈ ms.toList, y.born < keys.length := fun y hy => by
    obtain ⟨i, hi⟩ := List.getElem?_of_mem hy
    have := hms.born i y (by simpa using hi)
    rw [this, ← hsz]
    exact (Array.getElem?_eq_some_iff.1 (by simpa using hi : ms[i]? = some y)).1
  rcases run_next_at (P := P) w o.type (G.loc id).block (G.loc m).block keys.length keys.length seen ms ms.size hw hwm hborn (Nat.le_refl _) with ⟨h0, hrun⟩ | ⟨en, hen, w1, hw1, hrun⟩
  · have hl : left = [] := by
      cases hlf : left with
      | nil => rfl
      | cons k r =>
        exfalso
        have hk : k ∈ left := by rw [hlf]; exact List.mem_cons_self
        obtain ⟨i, hb, hi, hs⟩ := h8 k (h3 k hk)
        have hlt : i < ms.size := by omega
        have : ms[i] ∈ (leftOf ms seen).toList := by
          simp only [leftOf, Array.toList_filter, List.mem_filter, Array.mem_toList_iff, Array.getElem_mem, true_and, Bool.not_eq_true', Array.contains_eq_mem, decide_eq_false_iff_not]
          rw [hms.born i ms[i] (by simp [hlt])]
          exact fun hc => hs.1 hc hk
        have hz : (leftOf ms seen).toList = [] := by
          rw [← List.length_eq_zero_iff]; simpa using h0
        rw [hz] at this
        cases this
    subst hl
    refine ⟨_, List.mem_singleton_self _, .value (.tuple #[.bool false]), .tuple #[.bool false], w, G, ?_, .inl rfl, ?_, hR, Step.refl _ _ _⟩
    · simp only [execOp, ho]
      refine run_value P _ w _ _ ?_
      rw [hv]; exact hrun
    · simp only [V]
      refine ⟨_, rfl, rfl, ?_⟩
      simp only [Vcells, V, and_true]
      exact ⟨_, rfl, rfl⟩
  · simp only [leftOf, Array.toList_filter, List.mem_filter, Array.mem_toList_iff, Bool.not_eq_true', Array.contains_eq_mem, decide_eq_false_iff_not] at hen
    obtain ⟨hen1, hen2⟩ := hen
    obtain ⟨i, hi⟩ := List.getElem?_of_mem (Array.mem_toList_iff.2 hen1)
    have hi' : ms[i]? = some en := by simpa using hi
    have hbi := hms.born i en hi'
    obtain ⟨⟨k, v⟩, hkv, hbk⟩ := hms.back i en hi'
    simp only at hbk
    have hkk : k ∈ keys := hsub k (List.mem_map_of_mem (f := (·.1)) hkv)
    obtain ⟨i2, hb2, hi2, hs2⟩ := h8 k hkk
    rw [hbk] at hb2
    cases hb2
    rw [hbi] at hen2
    have hkl : k ∈ left := Classical.byContradiction fun hc => hen2 (hs2.2 hc)
    obtain ⟨i3, m3, a1, a2, a3, a4⟩ := hms.entry (k, v) hkv
    rw [hbk] at a1
    cases a1
    rw [hi'] at a2
    cases a2
    have hmg : mget es k = some v := mget_of_mem hms.nodup hkv
    have inj : ∀ k' ∈ keys, G.born m k' = some i → k' = k := fun k' hk' hb' => by
      obtain ⟨⟨k2, v2⟩, hk2, rfl⟩ := List.mem_map.1 (hsub' k' hk')
      obtain ⟨i4, m4, b1, b2, b3, _⟩ := hms.entry (k2, v2) hk2
      simp only at hb' b1 b3 ⊢
      rw [hb'] at b1
      cases b1
      rw [hi'] at b2
      cases b2
      exact val_inj (hms.fits _ hk2) (hms.fits _ hkv) (by rw [← a3, ← b3])
    have hlt : (G.loc id).block < w.heap.size := (Array.getElem?_eq_some_iff.1 hw).1
    have hheap : w1.heap = w.heap := by rcases hw1 with rfl | rfl <;> rfl
    have hos1 : w1.os = w.os ∧ w1.tape = w.tape ∧ w1.output = w.output := by rcases hw1 with rfl | rfl <;> exact ⟨rfl, rfl, rfl⟩
    have hput := hR.put (w' := ChangeMaps.setBlock w1 (G.loc id).block (.mapIter (some (G.loc m).block) keys.length (seen.push en.born) ms.size)) id _ (.iter m keys (dropKey left k) (some k)) (G.loc id) hH (by rw [Ghost.put_self]; exact Ext.refl _ _) (by simp [ChangeMaps.setBlock, hheap]) (fun _ => .inl ⟨rfl, rfl⟩)
      (fun b _ hne => by simp only [ChangeMaps.setBlock, hheap, Array.getElem?_setIfInBounds]; rw [if_neg (fun e => hne rfl e.symm)]) hos1 (by
        rw [Ghost.put_self]
        refine ⟨hfx, hm, hmf, seen.push en.born, ?_, h1, dropKey_nodup _ _ h2, fun q hq => h3 q ((dropKey_eq _ _ h2 q).1 hq).1, fun q hq => ?_, fun q hq => ?_⟩
        · simp only [ChangeMaps.setBlock, hheap, Array.getElem?_setIfInBounds, if_true, hlt, hsz]
        · obtain ⟨j, hj1, hj2, hj3⟩ := h8 q hq
          refine ⟨j, hj1, hj2, ?_⟩
          rw [Array.mem_push, hj3, dropKey_eq _ _ h2, hbi]
          constructor
          · rintro (hn | rfl)
            · exact fun hc => hn hc.1
            · exact fun hc => hc.2 (inj q hq hj1)
          · intro hn
            by_cases hql : q ∈ left
            · right
              have : q = k := Classical.byContradiction fun hne => hn ⟨hql, hne⟩
              subst this
              rw [hbk] at hj1
              cases hj1
              rfl
            · exact .inl hql
        · cases hq
          exact ⟨hkk, i, hbk, by rw [Array.back?_push, hbi]⟩)
    rw [Ghost.put_self] at hput
    have hmem := nextOuts_mem (H := H) (id := id) (m := m) (keys := keys) (kt := kt) (es := es) hkl
    refine ⟨_, hmem, .value (.tuple #[.bool true, en.key, en.val]), _, _, G, ?_, .inl rfl, ?_, hput⟩
    · simp only [execOp, ho]
      refine run_value P _ w _ _ ?_
      rw [hv]; exact hrun
    · have hkv' : V H.length G (k.av kt) en.key := by
        rw [a3]
        have hf := hms.fits _ hkv
        cases kt <;> cases k <;> simp only [Key.fits, Bool.false_eq_true, beq_iff_eq] at hf <;> simp only [Key.av, Key.val, V]
        rename_i ks l
        refine ⟨_, rfl, by simp, Vcells_of fun i x hx => ?_⟩
        rw [List.getElem?_map, Option.map_eq_some_iff] at hx
        obtain ⟨y, hy, rfl⟩ := hx
        refine ⟨.int y.1 y.2, by simp [hy], by simp only [V]⟩
      rw [hmg, Option.getD_some]
      simp only [List.length_set, V]
      refine ⟨_, rfl, rfl, ?_⟩
      simp only [Vcells, V, and_true]
      exact ⟨⟨_, rfl, rfl⟩, ⟨_, rfl, hkv'⟩, _, rfl, a4⟩
end Go.Ab
end
