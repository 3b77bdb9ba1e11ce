/- A part of a proof: rules for reading Go code as code over plain values, and what follows for this program. Its conditions stand in each statement. -/
import Derived.Test.YtackcjahocaonaaGreatDoorEvS2
section
set_option linter.unusedSimpArgs false
set_option linter.unusedVariables false
namespace Go.Ab
variable {P : Program} {T : Tab} {o : Oper} {H : Heap} {env : Env} {h : BT AObj} {v : AV} {eff : Eff} {n : Nat}

theorem append_snd (hT : T.Ok P) {s x : Operand} {t1 t2 : TypeId} (ho : o.op = .call { callee := .builtin .append, args := #[s, x], argTypes := #[t1, t2] }) (hh : HOk h H) (hu : ∀ x, (env.ev x).under H.length) (hn : n = H.length ∨ eff = .keep) (k : evAppend T h n t1 t2 (env.ev x) (env.ev s) = some (v, eff)) : Exec P o env H v (eff.app H) := by
  unfold evAppend at k
  split at k
  · rename_i el ys hd hys
    replace hys := elemsH_eq hh (hu x) hys
    rw [hT.eq hd (by simp)] at hd
    simp only at k
    replace k := chk_some k
    obtain ⟨hc, k⟩ := k
    simp only [Bool.and_eq_true, Bool.or_eq_true, Nat.beq_eq, blt_lt, List.all_eq_true] at hc
    obtain ⟨⟨⟨⟨⟨h2, hok⟩, hz⟩, hzn⟩, hb⟩, ha⟩ := hc
    obtain ⟨e1, e2⟩ := hT.ok hok
    rw [e1] at hz hzn hb ha k
    have ht2 : (P.ti t2).d = .string ∨ ∃ q, (P.ti t2).d = .slice q := by
      rcases h2 with h2 | h2
      · have := isString_iff h2; rw [hT.eq this (by simp)] at this; exact .inl this
      · obtain ⟨q, this⟩ := isSlice_iff h2; rw [hT.eq this (by simp)] at this; exact .inr ⟨q, this⟩
    have nothing : (env.ev s = .nilS ∨ env.ev s = .zS) → ys = [] → Exec P o env H (env.ev s) H := fun hs he => by
      subst he
      exact exec_append_nothing ho hs rfl hys hd ht2 e2
    have some' : (env.ev s = .nilS ∨ env.ev s = .zS) → ys ≠ [] → chk (Nat.ble (lenK ys * (P.ti el).bytes) 140737488355328) (some (.view n 1 0 (lenK ys), .push (.row el 1 (P.ti el).size ys))) = some (v, eff) → Exec P o env H v (eff.app H) := fun hs he k => by
      replace k := chk_some k
      obtain ⟨hl, k⟩ := k
      rw [ble_le, lenK_eq] at hl
      cases k
      rcases hn with hn | hn
      · subst hn
        rw [lenK_eq]
        exact exec_append_none ho hs rfl hys (List.length_pos_iff.2 he) hd ht2 e2 hz hzn hb (fun z hm => (ha z hm).1) (fun z hm => (ha z hm).2) hl
      · cases hn
    split at k
    · rename_i hs
      split at k
      · obtain ⟨rfl, rfl⟩ := kp_some k
        have := nothing (.inl hs) rfl
        rw [hs] at this
        exact this
      · rename_i hne
        exact some' (.inl hs) (fun e => hne e) k
    · rename_i hs
      split at k
      · obtain ⟨rfl, rfl⟩ := kp_some k
        have := nothing (.inr hs) rfl
        rw [hs] at this
        exact this
      · rename_i hne
        exact some' (.inr hs) (fun e => hne e) k
    · rename_i id g off len hs
      split at k
      · rename_i ty g' sz xs hob
        replace k := chk_some k
        obtain ⟨hc, k⟩ := k
        simp only [Bool.and_eq_true, Nat.beq_eq, ble_le, lenK_eq] at hc
        obtain ⟨⟨⟨⟨rfl, rfl⟩, hoff⟩, rfl⟩, hl⟩ := hc
        have hux := hu s
        rw [hs] at hux
        simp only [AV.under] at hux
        have hH := hh.at hux hob (by simp)
        cases k
        simp only [lenK_eq, app_set]
        exact exec_append ho hs rfl hys hH hoff hd ht2 e2 rfl hz hzn hb (fun z hm => (ha z hm).1) (fun z hm => (ha z hm).2) hl
      · cases k
    · cases k
  · cases k
theorem len_snd (hT : T.Ok P) {x : Operand} {t : TypeId} {m : Nat} (ho : o.op = .call { callee := .builtin .len, args := #[x], argTypes := #[t] }) (hh : HOk h H) (hu : ∀ x, (env.ev x).under H.length) (k : lenH T h t (env.ev x) = some m) : Exec P o env H (.int .i64 m) H := by
  have hsl : isSlice (T.ti t) = true → ∃ q, (P.ti t).d = .slice q := fun h2 => by
    obtain ⟨q, this⟩ := isSlice_iff h2; rw [hT.eq this (by simp)] at this; exact ⟨q, this⟩
  have hmp : isMap (T.ti t) = true → ∃ a b, (P.ti t).d = .map a b := fun h2 => by
    obtain ⟨a, b, this⟩ := isMap_iff h2; rw [hT.eq this (by simp)] at this; exact ⟨a, b, this⟩
  have go : ∀ m', lenAV (env.ev x) = some m' → isSlice (T.ti t) = true → (∀ s, env.ev x ≠ .str s) → m' = m → Exec P o env H (.int .i64 m) H := fun m' h1 h2 h3 h4 => by
    subst h4
    exact exec_len ho h1 (.inr ⟨hsl h2, h3⟩)
  unfold lenH at k
  split at k
  · rename_i s hs
    split at k
    · rename_i h2
      cases k
      rw [lenK_eq]
      have := isString_iff h2
      rw [hT.eq this (by simp)] at this
      exact exec_len ho (by rw [hs]; rfl) (.inl ⟨this, s, hs⟩)
    · cases k
  · rename_i hs; split at k
    · rename_i h2; cases k; exact go 0 (by rw [hs]; rfl) h2 (by simp [hs]) rfl
    · cases k
  · rename_i hs; split at k
    · rename_i h2; cases k; exact go 0 (by rw [hs]; rfl) h2 (by simp [hs]) rfl
    · cases k
  · rename_i xs hs; split at k
    · rename_i h2; cases k; exact go xs.length (by rw [hs]; rfl) h2 (by simp [hs]) (by simp)
    · cases k
  · rename_i hs; split at k
    · rename_i h2; cases k; exact go _ (by rw [hs]; rfl) h2 (by simp [hs]) rfl
    · cases k
  · rename_i id hs
    split at k
    · rename_i kt es h2 hob
      cases k
      have hux := hu x
      rw [hs] at hux
      simp only [AV.under] at hux
      have hH := hh.at hux hob (by simp)
      obtain ⟨a, b, hd⟩ := hmp h2
      rw [lenK_eq]
      exact exec_lenMap ho hs hH hd
    · cases k
  · rename_i hs
    split at k
    · rename_i h2
      cases k
      obtain ⟨a, b, hd⟩ := hmp h2
      exact exec_lenNilM ho hs hd
    · cases k
  · cases k
theorem copy_snd (hT : T.Ok P) {x y : Operand} {t t2 : TypeId} (ho : o.op = .call { callee := .builtin .copy, args := #[x, y], argTypes := #[t, t2] }) (hh : HOk h H) (hu : ∀ x, (env.ev x).under H.length) (k : evCopy T h t (env.ev y) (env.ev x) = some (v, eff)) : Exec P o env H v (eff.app H) := by
  unfold evCopy at k
  split at k
  · rename_i hs
    split at k
    · rename_i el ys hd hys
      rw [hT.eq hd (by simp)] at hd
      replace hys := elemsH_eq hh (hu y) hys
      replace k := chk_some k
      obtain ⟨hc, k⟩ := k
      simp only [Bool.and_eq_true, Nat.beq_eq, List.all_eq_true] at hc
      obtain ⟨e1, e2⟩ := hT.ok hc.1
      obtain ⟨rfl, rfl⟩ := kp_some k
      rw [e1] at hc
      exact exec_copyNil ho hs hys hd e2 hc.2
    · cases k
  · rename_i id g off len hs
    split at k
    · rename_i el ty g' sz xs ys hd hob hys
      rw [hT.eq hd (by simp)] at hd
      replace hys := elemsH_eq hh (hu y) hys
      have hux := hu x
      rw [hs] at hux
      simp only [AV.under] at hux
      have hH := hh.at hux hob (by simp)
      replace k := chk_some k
      obtain ⟨hc, k⟩ := k
      simp only [Bool.and_eq_true, Nat.beq_eq, ble_le, lenK_eq, List.all_eq_true] at hc
      obtain ⟨⟨⟨⟨rfl, hoff⟩, hok⟩, hsz⟩, ha⟩ := hc
      obtain ⟨e1, e2⟩ := hT.ok hok
      rw [e1] at hsz
      cases k
      simp only [lenK_eq, splice_eq, app_set]
      exact exec_copy ho hs hys hH hoff hd e2 hsz (fun z hm => (ha z hm).1) (fun z hm => (ha z hm).2)
    · cases k
  · cases k
theorem clear_snd (hT : T.Ok P) {x : Operand} {t : TypeId} (ho : o.op = .call { callee := .builtin .clear, args := #[x], argTypes := #[t] }) (hh : HOk h H) (hu : ∀ x, (env.ev x).under H.length) (k : evClear T h t (env.ev x) = some (v, eff)) : Exec P o env H v (eff.app H) := by
  unfold evClear at k
  split at k
  · rename_i hs
    replace k := chk_some k
    obtain ⟨hc, k⟩ := k
    obtain ⟨q, hd⟩ := isSlice_iff hc
    rw [hT.eq hd (by simp)] at hd
    obtain ⟨rfl, rfl⟩ := kp_some k
    exact exec_clearNil ho hs hd
  · rename_i id g off len hs
    split at k
    · rename_i el ty g' sz xs hd hob
      rw [hT.eq hd (by simp)] at hd
      have hux := hu x
      rw [hs] at hux
      simp only [AV.under] at hux
      have hH := hh.at hux hob (by simp)
      simp only at k
      replace k := chk_some k
      obtain ⟨hc, k⟩ := k
      simp only [Bool.and_eq_true, Nat.beq_eq, ble_le, lenK_eq] at hc
      obtain ⟨⟨⟨⟨⟨rfl, hoff⟩, hok⟩, hsz⟩, hz⟩, hzn⟩ := hc
      obtain ⟨e1, e2⟩ := hT.ok hok
      rw [e1] at hz hzn k
      cases k
      simp only [splice_eq, app_set]
      exact exec_clear ho hs hH hoff hd e2 hz hzn
    · cases k
  · cases k
theorem minmax_snd {mx : Bool} {xs : Array Operand} {ts : Array TypeId} (ho : o.op = .call { callee := .builtin (if mx then .max else .min), args := xs, argTypes := ts }) (k : evMinMax mx (xs.toList.map env.ev) = some (v, eff)) : Exec P o env H v (eff.app H) := by
  unfold evMinMax at k
  split at k
  · rename_i q a q' b hl
    obtain ⟨xs⟩ := xs
    match xs, hl, ho with
    | [x, y], hl, ho =>
      simp only [List.map_cons, List.map_nil, List.cons.injEq, and_true] at hl
      replace k := chk_some k
      obtain ⟨hc, k⟩ := k
      rw [sameK_eq] at hc
      subst hc
      obtain ⟨rfl, rfl⟩ := kp_some k
      have := exec_minmax (P := P) (H := H) ho hl.1 hl.2
      cases mx
      · simp only [ltF_eq, decide_eq_true_eq] at this ⊢
        by_cases hlt : b < a
        · simpa [hlt] using this
        · simpa [hlt] using this
      · simp only [ltF_eq, decide_eq_true_eq] at this ⊢
        by_cases hlt : a < b
        · simpa [hlt] using this
        · simpa [hlt] using this
    | [], hl, _ => cases hl
    | [x], hl, _ => simp at hl
    | x :: y :: z :: r, hl, _ => simp at hl
  · cases k
theorem unsafe_snd (hT : T.Ok P) {x l : Operand} {ts : Array TypeId} {pt : TypeId} {q : IntKind} {m : Int} (ho : o.op = .call { callee := .builtin .unsafeString, args := #[x, l], argTypes := ts }) (hts : ts[0]? = some pt) (hl : env.ev l = .int q m) (hh : HOk h H) (hu : ∀ x, (env.ev x).under H.length) (k : evUnsafe T h pt m (env.ev x) = some (v, eff)) : Exec P o env H v (eff.app H) := by
  have h0 : 0 < ts.size := by
    rcases Nat.eq_zero_or_pos ts.size with h0 | h0
    · rw [Array.getElem?_eq_none (by omega)] at hts; cases hts
    · exact h0
  unfold evUnsafe at k
  split at k
  · rename_i hs
    replace k := chk_some k
    obtain ⟨hc, k⟩ := k
    obtain ⟨rfl, rfl⟩ := kp_some k
    rw [eqF_eq, beq_iff_eq] at hc
    subst hc
    exact exec_unsafeStr0 ho h0 hl (.inl hs)
  · rename_i id g i hs
    split at k
    · obtain ⟨rfl, rfl⟩ := kp_some k
      exact exec_unsafeStr0 ho h0 hl (.inr ⟨_, _, _, _, hs⟩)
    · rename_i m hm0
      split at k
      · rename_i ty g' sz xs pe hob hpt
        split at k
        · rename_i b hel hb
          replace k := chk_some k
          obtain ⟨hc, k⟩ := k
          simp only [Bool.and_eq_true, Nat.beq_eq, ble_le, lenK_eq] at hc
          obtain ⟨⟨⟨⟨⟨rfl, rfl⟩, rfl⟩, hsz⟩, hfit⟩, hmax⟩ := hc
          rw [hT.eq hpt (by simp)] at hpt
          have he := hT.eq hel (by simp)
          rw [he] at hel hsz
          have hux := hu x
          rw [hs] at hux
          simp only [AV.under] at hux
          have hH := hh.at hux hob (by simp)
          cases k
          exact exec_unsafeStr (sz := 1) ho hts hpt hl (by rintro rfl; exact hm0 rfl) hs hH (by rw [hel]; simp) hsz hfit hmax hb
        · cases k
      · cases k
    · cases k
  · cases k
end Go.Ab
end
