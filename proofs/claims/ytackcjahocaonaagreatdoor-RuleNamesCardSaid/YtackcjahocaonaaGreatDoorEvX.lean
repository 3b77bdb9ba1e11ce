/- A part of a proof: rules for reading Go code as code over plain values, and what follows for this program. Its conditions stand in each statement. -/
import Derived.Test.YtackcjahocaonaaGreatDoorEvW
section
set_option linter.unusedSimpArgs false
set_option linter.unusedVariables false
/-! Like states, cut states. -/
namespace Go.Ab
theorem beqL_eq {α : Type} {f : α → α → Bool} : ∀ (l m : List α), (∀ x ∈ l, ∀ y, f x y = true → x = y) → beqL f l m = true → l = m
  | [], [], _, _ => rfl
  | [], _ :: _, _, h => by cases h
  | _ :: _, [], _, h => by cases h
  | x :: xs, y :: ys, hf, h => by
    simp only [beqL] at h
    split at h
    · rename_i h1
      rw [hf x List.mem_cons_self y h1, beqL_eq xs ys (fun x hx => hf x (List.mem_cons_of_mem _ hx)) h]
    · cases h
theorem AV.beqF_eq : ∀ (n : Nat) (x y : AV), AV.beqF n x y = true → x = y := by
  intro n
  induction n with
  | zero => intro x y h; cases h
  | succ n ih =>
    intro x y h
    have hl : ∀ a b, beqL (AV.beqF n) a b = true → a = b := fun a b h => beqL_eq a b (fun x _ y => ih x y) h
    unfold AV.beqF at h
    split at h
    any_goals rfl
    all_goals (try simp only [Bool.and_eq_true, beq_iff_eq, Nat.beq_eq, sameK_eq, eqF_eq, eqB_eq, decide_eq_true_eq] at h)
    · rw [h]
    · rw [h.1, h.2]
    · rw [h]
    · rw [hl _ _ h]
    · rw [hl _ _ h]
    · rw [hl _ _ h]
    · obtain ⟨⟨⟨rfl, rfl⟩, rfl⟩, rfl⟩ := h; rfl
    · obtain ⟨⟨⟨rfl, rfl⟩, rfl⟩, rfl⟩ := h; rfl
    · obtain ⟨rfl, rfl⟩ := h; rfl
    · obtain ⟨⟨h, rfl⟩, rfl⟩ := h; rw [hl _ _ h]
    · subst h; rfl
    · subst h; rfl
    · obtain ⟨⟨rfl, h1⟩, h2⟩ := h; rw [hl _ _ h1, hl _ _ h2]
    · obtain ⟨rfl, h⟩ := h; rw [ih _ _ h]
    · cases h
theorem AObj.beqF_eq {n : Nat} {x y : AObj} (h : AObj.beqF n x y = true) : x = y := by
  have hl : ∀ a b, beqL (AV.beqF n) a b = true → a = b := fun a b h => beqL_eq a b (fun x _ y => AV.beqF_eq n x y) h
  have hk : ∀ a b, beqL Key.eqb a b = true → a = b := fun a b h => beqL_eq a b (fun x _ y e => eqb_eq.1 e) h
  unfold AObj.beqF at h
  split at h
  · rfl
  · simp only [Bool.and_eq_true, Nat.beq_eq] at h; rw [h.1, hl _ _ h.2]
  · simp only [Bool.and_eq_true, Nat.beq_eq] at h; obtain ⟨⟨⟨rfl, rfl⟩, rfl⟩, h⟩ := h; rw [hl _ _ h]
  · simp only [Bool.and_eq_true, decide_eq_true_eq] at h
    obtain ⟨rfl, h⟩ := h
    rw [beqL_eq _ _ (fun x _ y e => by
      simp only [Bool.and_eq_true] at e
      exact Prod.ext (eqb_eq.1 e.1) (AV.beqF_eq _ _ _ e.2)) h]
  · simp only [Bool.and_eq_true, Nat.beq_eq] at h
    obtain ⟨⟨⟨rfl, h1⟩, h2⟩, h3⟩ := h
    rw [hk _ _ h1, hk _ _ h2]
    split at h3
    · rfl
    · rw [eqb_eq.1 h3]
    · cases h3
  · simp only [Bool.and_eq_true, Nat.beq_eq, eqB_eq, decide_eq_true_eq] at h
    obtain ⟨rfl, rfl⟩ := h
    rfl
  · cases h
theorem beqEnv_eq : ∀ (a b : BT AV), beqEnv a b = true → a = b
  | .nil, .nil, _ => rfl
  | .nil, .node .., h => by cases h
  | .node .., .nil, h => by cases h
  | .node l v r, .node l' v' r', h => by
    simp only [beqEnv, Bool.and_eq_true] at h
    rw [AV.beqF_eq _ _ _ h.1.1, beqEnv_eq _ _ h.1.2, beqEnv_eq _ _ h.2]
theorem beqObjs_eq (a b : BT AObj) : ∀ n, beqObjs a b n = true → ∀ id, id < n → obj a id = obj b id := by
  intro n
  induction n with
  | zero => intro _ id h; omega
  | succ n ih =>
    intro h id hid
    simp only [beqObjs] at h
    split at h
    · rename_i h1
      rcases Nat.lt_or_ge id n with h2 | h2
      · exact ih h id h2
      · have : id = n := by omega
        subst this
        exact AObj.beqF_eq h1
    · cases h
/-- States that hold the same. -/
def St.eqv (a b : St) : Prop := a.e = b.e ∧ a.n = b.n ∧ heapOf a.h a.n = heapOf b.h b.n
theorem St.eqv_refl (a : St) : a.eqv a := ⟨rfl, rfl, rfl⟩
theorem St.eqv_trans {a b c : St} (h : a.eqv b) (k : b.eqv c) : a.eqv c := ⟨h.1.trans k.1, h.2.1.trans k.2.1, h.2.2.trans k.2.2⟩
theorem heapOf_congr {a b : BT AObj} {n : Nat} (h : ∀ id, id < n → obj a id = obj b id) : heapOf a n = heapOf b n :=
  List.map_congr_left fun i hi => h i (List.mem_range.1 hi)
theorem St.beq_eqv {a b : St} (h : a.beq b = true) : a.eqv b := by
  simp only [St.beq, Bool.and_eq_true, Nat.beq_eq] at h
  obtain ⟨⟨h1, h2⟩, h3⟩ := h
  refine ⟨beqEnv_eq _ _ h2, h1, ?_⟩
  rw [← h1]
  exact heapOf_congr (beqObjs_eq _ _ _ h3)
theorem AX.beqX_eq {x y : AX} (h : x.beqX y = true) : x = y := by
  unfold AX.beqX at h
  split at h
  · rfl
  · rfl
  · rw [Nat.beq_eq] at h; rw [h]
  · cases h
theorem AEnd.beqE_eq {x y : AEnd} (h : x.beqE y = true) : x = y := by
  unfold AEnd.beqE at h
  split at h
  · rw [AV.beqF_eq _ _ _ h]
  · rw [AV.beqF_eq _ _ _ h]
  · cases h
theorem dedup_cov {α : Type} {f : α → α → Bool} {R : α → α → Prop} (hr : ∀ x, R x x) (ht : ∀ x y z, R x y → R y z → R x z) (hf : ∀ x y, f x y = true → R x y) : ∀ (l : List α), ∀ x ∈ l, ∃ y ∈ dedup f l, R x y := by
  intro l
  induction l with
  | nil => intro x hx; cases hx
  | cons a l ih =>
    intro x hx
    simp only [dedup]
    split
    · rename_i h
      rcases List.mem_cons.1 hx with rfl | hx
      · rw [List.any_eq_true] at h
        obtain ⟨y, hy, hxy⟩ := h
        obtain ⟨z, hz, hyz⟩ := ih y hy
        exact ⟨z, hz, ht _ _ _ (hf _ _ hxy) hyz⟩
      · exact ih x hx
    · rcases List.mem_cons.1 hx with rfl | hx
      · exact ⟨x, List.mem_cons_self, hr x⟩
      · obtain ⟨y, hy, h⟩ := ih x hx
        exact ⟨y, List.mem_cons_of_mem _ hy, h⟩
theorem dedup_sub {α : Type} {f : α → α → Bool} : ∀ (l : List α), ∀ x ∈ dedup f l, x ∈ l := by
  intro l
  induction l with
  | nil => intro x hx; exact hx
  | cons a l ih =>
    intro x hx
    simp only [dedup] at hx
    split at hx
    · exact List.mem_cons_of_mem _ (ih x hx)
    · rcases List.mem_cons.1 hx with rfl | hx
      · exact List.mem_cons_self
      · exact List.mem_cons_of_mem _ (ih x hx)
/-- Each end of one list is one of the other. -/
def Cov (l outs : Outs) : Prop := ∀ y ∈ l, ∃ z ∈ outs, z.1 = y.1 ∧ y.2.eqv z.2
theorem Cov.refl (l : Outs) : Cov l l := fun y hy => ⟨y, hy, rfl, St.eqv_refl _⟩
theorem Cov.sub {l m : Outs} (h : ∀ y ∈ l, y ∈ m) : Cov l m := fun y hy => ⟨y, h y hy, rfl, St.eqv_refl _⟩
theorem Cov.trans {l m n : Outs} (h : Cov l m) (k : Cov m n) : Cov l n := fun y hy => by
  obtain ⟨z, hz, e1, e2⟩ := h y hy
  obtain ⟨u, hu, e3, e4⟩ := k z hz
  exact ⟨u, hu, e3.trans e1, St.eqv_trans e2 e4⟩
theorem dedupOuts_cov (l : Outs) : Cov l (dedupOuts l) := by
  unfold dedupOuts
  split
  · exact Cov.refl _
  · exact Cov.refl _
  · intro x hx
    have hR : ∀ a b : AX × St, (AX.beqX a.1 b.1 && St.beq a.2 b.2) = true → b.1 = a.1 ∧ a.2.eqv b.2 := fun a b h => by
      rw [Bool.and_eq_true] at h
      exact ⟨(AX.beqX_eq h.1).symm, St.beq_eqv h.2⟩
    exact dedup_cov (α := AX × St) (R := fun y z => z.1 = y.1 ∧ y.2.eqv z.2) (fun x => ⟨rfl, St.eqv_refl _⟩) (fun x y z h k => ⟨k.1.trans h.1, St.eqv_trans h.2 k.2⟩) hR l x hx
/-! ### What a value leads to -/
theorem le_maxK_left (a b : Nat) : a ≤ maxK a b := by
  unfold maxK
  split
  · rename_i h; exact ble_le.1 h
  · exact Nat.le_refl _
theorem le_maxK_right (a b : Nat) : b ≤ maxK a b := by
  unfold maxK
  split
  · exact Nat.le_refl _
  · rename_i h
    rcases Nat.le_total a b with k | k
    · rw [ble_le.2 k] at h; cases h
    · exact k
theorem goMax_spec {f : AV → Option Nat} (hf : ∀ x j, f x = some j → x.under j) : ∀ (xs : List AV) (k m : Nat), goMax f xs k = some m → k ≤ m ∧ unders m xs := by
  intro xs
  induction xs with
  | nil => intro k m h; cases h; exact ⟨Nat.le_refl _, by simp only [unders]⟩
  | cons x xs ih =>
    intro k m h
    simp only [goMax] at h
    split at h
    · rename_i hj
      obtain ⟨h1, h2⟩ := ih _ _ h
      exact ⟨h1, by simp only [unders]; exact ⟨AV.umono (Nat.zero_le _) _ (hf _ _ hj), h2⟩⟩
    · rename_i j _ hj
      obtain ⟨h1, h2⟩ := ih _ _ h
      have h3 : k ≤ m := Nat.le_trans (le_maxK_left k j) h1
      have h4 : j ≤ m := Nat.le_trans (le_maxK_right k j) h1
      exact ⟨h3, by simp only [unders]; exact ⟨AV.umono h4 _ (hf _ _ hj), h2⟩⟩
    · cases h
theorem AV.maxF_spec : ∀ (n : Nat) (x : AV) (j : Nat), AV.maxF n x = some j → x.under j := by
  intro n
  induction n with
  | zero => intro x j h; cases h
  | succ n ih =>
    intro x j h
    unfold AV.maxF at h
    split at h
    · simp only [AV.under]; exact (goMax_spec ih _ _ _ h).2
    · simp only [AV.under]; exact (goMax_spec ih _ _ _ h).2
    · simp only [AV.under]; exact (goMax_spec ih _ _ _ h).2
    · simp only [AV.under]; exact (goMax_spec ih _ _ _ h).2
    · cases h; simp only [AV.under]; omega
    · cases h; simp only [AV.under]; omega
    · cases h; simp only [AV.under]; omega
    · cases h; simp only [AV.under]; omega
    · cases h; simp only [AV.under]; omega
    · split at h
      · rename_i k hk
        obtain ⟨h1, h2⟩ := goMax_spec ih _ _ _ h
        simp only [AV.under]
        exact ⟨unders_umono h1 _ (goMax_spec ih _ _ _ hk).2, h2⟩
      · cases h
    · simp only [AV.under]; exact ih _ _ h
    · rename_i n1 n2 n3 n4 n5 n6 n7 n8 n9 n10 n11
      cases x <;> simp only [AV.under]
      all_goals first
        | exact absurd rfl (n1 _)
        | exact absurd rfl (n2 _)
        | exact absurd rfl (n3 _)
        | exact absurd rfl (n4 _ _ _)
        | exact absurd rfl (n5 _ _ _ _)
        | exact absurd rfl (n6 _ _ _ _)
        | exact absurd rfl (n7 _ _)
        | exact absurd rfl (n8 _)
        | exact absurd rfl (n9 _)
        | exact absurd rfl (n10 _ _ _)
        | exact absurd rfl (n11 _ _)
theorem AObj.maxF_spec {o : AObj} {j : Nat} (h : o.maxF = some j) : o.under j := by
  unfold AObj.maxF at h
  split at h
  · simp only [AObj.under]; exact (goMax_spec (AV.maxF_spec 12) _ _ _ h).2
  · simp only [AObj.under]; exact (goMax_spec (AV.maxF_spec 12) _ _ _ h).2
  · rename_i kt es
    simp only [AObj.under]
    have := (goMax_spec (AV.maxF_spec 12) _ _ _ h).2
    intro e he
    have gen : ∀ l : List AV, unders j l → ∀ x ∈ l, x.under j := by
      intro l
      induction l with
      | nil => intro _ x hx; cases hx
      | cons a l ih =>
        intro k x hx
        simp only [unders] at k
        rcases List.mem_cons.1 hx with rfl | hx
        · exact k.1
        · exact ih k.2 x hx
    exact gen _ this _ (List.mem_map_of_mem (f := (·.2)) he)
  · cases h; simp only [AObj.under]; omega
  · rename_i n1 n2 n3 n4
    cases o <;> simp only [AObj.under]
    all_goals first
      | exact absurd rfl (n1 _ _)
      | exact absurd rfl (n2 _ _ _ _)
      | exact absurd rfl (n3 _ _)
      | exact absurd rfl (n4 _ _ _ _)
theorem maxObjs_spec (h : BT AObj) : ∀ (n k m : Nat), maxObjs h n k = some m → k ≤ m ∧ ∀ id, id < n → (obj h id).under m := by
  intro n
  induction n with
  | zero => intro k m e; cases e; exact ⟨Nat.le_refl _, fun id h => by omega⟩
  | succ n ih =>
    intro k m e
    simp only [maxObjs] at e
    split at e
    · rename_i hj
      obtain ⟨h1, h2⟩ := ih _ _ e
      refine ⟨h1, fun id hid => ?_⟩
      rcases Nat.lt_or_ge id n with hlt | hge
      · exact h2 id hlt
      · have : id = n := by omega
        subst this
        exact AObj.umono (Nat.zero_le _) (AObj.maxF_spec hj)
    · rename_i j _ hj
      obtain ⟨h1, h2⟩ := ih _ _ e
      have h3 : k ≤ m := Nat.le_trans (le_maxK_left k j) h1
      have h4 : j ≤ m := Nat.le_trans (le_maxK_right k j) h1
      refine ⟨h3, fun id hid => ?_⟩
      rcases Nat.lt_or_ge id n with hlt | hge
      · exact h2 id hlt
      · have : id = n := by omega
        subst this
        exact AObj.umono h4 (AObj.maxF_spec hj)
    · cases e
theorem maxEnv_spec : ∀ (e : BT AV) (k m : Nat), maxEnv e k = some m → k ≤ m ∧ ∀ s, (slot e s).under m := by
  intro e
  induction e with
  | nil => intro k m h; cases h; exact ⟨Nat.le_refl _, fun s => by show AV.under _ AV.junk; simp only [AV.under]⟩
  | node l v r ihl ihr =>
    intro k m h
    simp only [maxEnv] at h
    split at h
    · rename_i j hj
      split at h
      · rename_i i hi
        obtain ⟨h1, h2⟩ := ihl _ _ hi
        obtain ⟨h3, h4⟩ := ihr _ _ h
        have h5 : k ≤ m := Nat.le_trans (le_maxK_left k j) (Nat.le_trans h1 h3)
        have h6 : j ≤ m := Nat.le_trans (le_maxK_right k j) (Nat.le_trans h1 h3)
        refine ⟨h5, fun s => ?_⟩
        cases s with
        | zero => exact AV.umono h6 _ (AV.maxF_spec _ _ _ hj)
        | succ s =>
          show AV.under m (BT.get .junk (.node l v r) (s + 1))
          rw [get_succ]
          split
          · exact AV.umono h3 _ (h2 _)
          · exact h4 _
      · cases h
    · cases h
theorem meet_spec : ∀ (a b : BT AV) (s : Nat), slot (meet a b) s = .junk ∨ slot (meet a b) s = slot b s := by
  intro a
  induction a with
  | nil => intro b s; left; cases b <;> rfl
  | node l v r ihl ihr =>
    intro b s
    cases b with
    | nil => left; rfl
    | node l' v' r' =>
      simp only [meet, slot]
      cases s with
      | zero =>
        simp only [get_zero]
        split
        · exact .inl rfl
        · exact .inr rfl
      | succ s =>
        simp only [get_succ]
        split
        · exact ihl _ _
        · exact ihr _ _
theorem cut_spec (e : BT AV) (h : BT AObj) (n n0 : Nat) : ∀ (f m : Nat), n0 ≤ m → (∀ s, (slot e s).under m) → (St.cut e h n f m).e = e ∧ (St.cut e h n f m).h = h ∧ ((St.cut e h n f m).n = n ∨
    (n0 ≤ (St.cut e h n f m).n ∧ (St.cut e h n f m).n ≤ n ∧ (∀ s, (slot e s).under (St.cut e h n f m).n) ∧ ∀ id, id < (St.cut e h n f m).n → (obj h id).under (St.cut e h n f m).n)) := by
  intro f
  induction f with
  | zero => intro m _ _; exact ⟨rfl, rfl, .inl rfl⟩
  | succ f ih =>
    intro m hm hu
    simp only [St.cut]
    split
    · rename_i k hk
      obtain ⟨h1, h2⟩ := maxObjs_spec h _ _ _ hk
      split
      · rename_i hle
        rw [ble_le] at hle
        split
        · rename_i hmn
          rw [ble_le] at hmn
          have : k = m := by omega
          subst this
          exact ⟨rfl, rfl, .inr ⟨hm, hmn, hu, h2⟩⟩
        · exact ⟨rfl, rfl, .inl rfl⟩
      · exact ih k (by omega) fun s => AV.umono h1 _ (hu s)
    · exact ⟨rfl, rfl, .inl rfl⟩
theorem heapOf_split (h : BT AObj) {m n : Nat} (hmn : m ≤ n) : ∃ L, heapOf h n = heapOf h m ++ L := by
  refine ⟨((List.range' m (n - m)).map (obj h)), ?_⟩
  have h1 : List.range' 0 m ++ List.range' m (n - m) = List.range' 0 n := by
    have := @List.range'_append_1 0 m (n - m)
    rw [Nat.zero_add, Nat.add_sub_cancel' hmn] at this
    exact this
  simp only [heapOf, List.range_eq_range', ← List.map_append, h1]
/-- A state that is cut. -/
theorem norm_shr (σ0 σ : St) {e1 : Env} {x : AX} (he : Repr e1 σ.e) (hx : ∀ y, x ≠ .panic y) {e3 : Env} (h3 : Repr e3 (norm σ0 σ).e) : Shr σ0.n x e1 (heapOf σ.h σ.n) e3 (heapOf (norm σ0 σ).h (norm σ0 σ).n) := by
  have hmeet : ∀ s, slot (meet σ0.e σ.e) s = .junk ∨ slot (meet σ0.e σ.e) s = e1.get s := fun s => by rw [he s]; exact meet_spec _ _ s
  unfold norm at h3 ⊢
  simp only at h3 ⊢
  split at h3
  · rename_i m hm
    obtain ⟨h1, h2⟩ := maxEnv_spec _ _ _ hm
    obtain ⟨c1, c2, c3⟩ := cut_spec (meet σ0.e σ.e) σ.h σ.n σ0.n 8 m h1 h2
    rw [c1] at h3
    rw [c2]
    refine ⟨fun s => by rw [h3 s]; exact hmeet s, ?_⟩
    rcases c3 with c3 | ⟨c3, c4, c5, c6⟩
    · rw [c3]; exact .inl rfl
    · right
      refine ⟨by simpa using c3, heapOf_split _ c4, fun s => by rw [h3 s, heapOf_length]; exact c5 s, fun o ho => ?_, hx⟩
      simp only [heapOf, List.mem_map, List.mem_range] at ho
      obtain ⟨id, hid, rfl⟩ := ho
      rw [heapOf_length]
      exact c6 id hid
  · exact ⟨fun s => by rw [h3 s]; exact hmeet s, .inl rfl⟩
end Go.Ab
end
