/- A part of a proof: rules for reading Go code as code over plain values, and what follows for this program. Its conditions stand in each statement. -/
import Derived.Test.YtackcjahocaonaaGreatDoorAbE
import Derived.Test.YtackcjahocaonaaGreatDoorEvS4
import Derived.Test.YtackcjahocaonaaGreatDoorAbD
section
set_option linter.unusedSimpArgs false
set_option linter.unusedVariables false
/-! States as trees, as lists. -/
namespace Go.Ab
variable {α R : Type}
theorem get_nil (d : α) (s : Nat) : BT.get d .nil s = d := rfl
theorem get_zero (d : α) (l r : BT α) (v : α) : BT.get d (.node l v r) 0 = v := rfl
theorem get_succ (d : α) (l r : BT α) (v : α) (k : Nat) : BT.get d (.node l v r) (k + 1) = if k % 2 = 0 then BT.get d l (k / 2) else BT.get d r (k / 2) := by
  show (Bool.rec (BT.get d r (Nat.div k 2)) (BT.get d l (Nat.div k 2)) (Nat.beq (Nat.mod k 2) 0) : α) = _
  have : Nat.beq (Nat.mod k 2) 0 = decide (k % 2 = 0) := by rw [Bool.eq_iff_iff, Nat.beq_eq, decide_eq_true_eq]; rfl
  rw [this]
  by_cases h : k % 2 = 0
  · rw [if_pos h, decide_eq_true h]; rfl
  · rw [if_neg h, decide_eq_false h]; rfl
theorem slow_get (d x : α) : ∀ (s : Nat) (t : BT α) (i : Nat), BT.get d (BT.slow d x t s) i = if i = s then x else BT.get d t i := by
  intro s
  induction s using Nat.strongRecOn with
  | _ s ih =>
    intro t i
    cases s with
    | zero =>
      rw [BT.slow.eq_def]
      cases t with
      | nil =>
        cases i with
        | zero => rfl
        | succ i => simp only [get_succ, get_nil]; split <;> rfl
      | node l v r =>
        cases i with
        | zero => rfl
        | succ i => simp only [get_succ]; rw [if_neg (by omega : ¬ i + 1 = 0)]
    | succ k =>
      rw [BT.slow.eq_def]
      have hlt : k / 2 < k + 1 := by omega
      cases t with
      | nil =>
        simp only
        split
        · rename_i hk
          cases i with
          | zero => simp only [get_zero, get_nil]; rw [if_neg (by omega)]
          | succ i =>
            rw [get_succ, ih _ hlt]
            simp only [get_nil]
            split
            · split
              · rw [if_pos (by omega)]
              · rw [if_neg (by omega)]
            · rw [if_neg (by omega)]
        · rename_i hk
          cases i with
          | zero => simp only [get_zero, get_nil]; rw [if_neg (by omega)]
          | succ i =>
            rw [get_succ, ih _ hlt]
            simp only [get_nil]
            split
            · rw [if_neg (by omega)]
            · split
              · rw [if_pos (by omega)]
              · rw [if_neg (by omega)]
      | node l v r =>
        simp only
        split
        · rename_i hk
          cases i with
          | zero => simp only [get_zero]; rw [if_neg (by omega)]
          | succ i =>
            rw [get_succ, ih _ hlt, get_succ]
            split
            · split
              · rw [if_pos (by omega)]
              · rw [if_neg (by omega)]
            · rw [if_neg (by omega)]
        · rename_i hk
          cases i with
          | zero => simp only [get_zero]; rw [if_neg (by omega)]
          | succ i =>
            rw [get_succ, ih _ hlt, get_succ]
            split
            · rw [if_neg (by omega)]
            · split
              · rw [if_pos (by omega)]
              · rw [if_neg (by omega)]
theorem putK_eq (d x : α) : ∀ (f : Nat) (t : BT α) (s : Nat) (k : BT α → R), BT.putK d x f t s k = k (BT.slow d x t s) := by
  intro f
  induction f with
  | zero => intro t s k; rfl
  | succ f ih =>
    intro t s k
    have hb : ∀ j, Nat.beq (Nat.mod j 2) 0 = decide (j % 2 = 0) := fun j => by rw [Bool.eq_iff_iff, Nat.beq_eq, decide_eq_true_eq]; rfl
    cases t with
    | nil =>
      cases s with
      | zero => rw [BT.slow.eq_def]; rfl
      | succ j =>
        rw [BT.slow.eq_def]
        show (Bool.rec (BT.putK d x f .nil (Nat.div j 2) fun r => k (.node .nil d r)) (BT.putK d x f .nil (Nat.div j 2) fun l => k (.node l d .nil)) (Nat.beq (Nat.mod j 2) 0) : R) = _
        rw [hb, ih, ih]
        simp only
        by_cases h : j % 2 = 0
        · rw [if_pos h, decide_eq_true h]; rfl
        · rw [if_neg h, decide_eq_false h]; rfl
    | node l v r =>
      cases s with
      | zero => rw [BT.slow.eq_def]; rfl
      | succ j =>
        rw [BT.slow.eq_def]
        show (Bool.rec (BT.putK d x f r (Nat.div j 2) fun r' => k (.node l v r')) (BT.putK d x f l (Nat.div j 2) fun l' => k (.node l' v r)) (Nat.beq (Nat.mod j 2) 0) : R) = _
        rw [hb, ih, ih]
        simp only
        by_cases h : j % 2 = 0
        · rw [if_pos h, decide_eq_true h]; rfl
        · rw [if_neg h, decide_eq_false h]; rfl
theorem natK_eq (n : Nat) (k : Nat → R) : natK n k = k n := by cases n <;> rfl
theorem intK_eq (i : Int) (k : Int → R) : intK i k = k i := by cases i <;> simp only [intK, natK_eq]
theorem boolK_eq (b : Bool) (k : Bool → R) : boolK b k = k b := by cases b <;> rfl
theorem listK_eq (l : List α) (k : List α → R) : listK l k = k l := by
  induction l generalizing k with
  | nil => rfl
  | cons x l ih => show listK l (fun r => k (x :: r)) = _; rw [ih]
theorem avK_eq (x : AV) (k : AV → R) : avK x k = k x := by
  cases x <;> simp only [avK, intK_eq, natK_eq, boolK_eq, listK_eq]
theorem objK_eq (o : AObj) (k : AObj → R) : objK o k = k o := by
  cases o with
  | dead => rfl
  | cells t c => change (listK c fun cs => k (.cells t cs)) = _; rw [listK_eq]
  | row t g s x => change (natK g fun g => natK s fun s => listK x fun xs => k (.row t g s xs)) = _; rw [natK_eq, natK_eq, listK_eq]
  | map q e => change (listK e fun es => k (.map q es)) = _; rw [listK_eq]
  | iter => rfl
  | siter s p => change (natK p fun p => k (.siter s p)) = _; rw [natK_eq]

/-- Slots as a list. -/
def Repr (e : Env) (t : BT AV) : Prop := ∀ s, e.get s = slot t s
theorem get_map (f : Nat → Nat) (hf : ∀ a b, f a = f b → a = b) (e : Env) : (∀ s, (Env.get (e.map fun x => (f x.1, x.2)) (f s)) = e.get s) ∧ ∀ s, (∀ j, f j ≠ s) → Env.get (e.map fun x => (f x.1, x.2)) s = .junk := by
  induction e with
  | nil => exact ⟨fun _ => rfl, fun _ _ => rfl⟩
  | cons x e ih =>
    obtain ⟨a, v⟩ := x
    refine ⟨fun s => ?_, fun s hs => ?_⟩
    · simp only [List.map_cons, Env.get]
      by_cases h : s = a
      · subst h; simp
      · rw [if_neg h, if_neg (fun k => h (hf _ _ k)), ih.1 s]
    · simp only [List.map_cons, Env.get]
      rw [if_neg (fun k => hs a k.symm), ih.2 s hs]
theorem get_append (e1 e2 : Env) (s : Nat) (h : Env.get e1 s = .junk ∨ Env.get e2 s = .junk) : Env.get (e1 ++ e2) s = Env.get e1 s ∨ (Env.get e1 s = .junk ∧ Env.get (e1 ++ e2) s = Env.get e2 s) ∨ ((∃ x ∈ e1, x.1 = s) ∧ Env.get (e1 ++ e2) s = Env.get e1 s) := by
  induction e1 with
  | nil => exact .inr (.inl ⟨rfl, rfl⟩)
  | cons x e1 ih =>
    obtain ⟨a, v⟩ := x
    simp only [List.cons_append, Env.get] at h ⊢
    by_cases hs : s = a
    · rw [if_pos hs, if_pos hs]; exact .inl rfl
    · rw [if_neg hs] at h; rw [if_neg hs, if_neg hs]
      rcases ih h with k | k | ⟨⟨x, hx, e⟩, k⟩
      · exact .inl k
      · exact .inr (.inl k)
      · exact .inl k
theorem get_append_no (e1 e2 : Env) (s : Nat) (h : ∀ x ∈ e1, x.1 ≠ s) : Env.get (e1 ++ e2) s = Env.get e2 s := by
  induction e1 with
  | nil => rfl
  | cons x e1 ih =>
    obtain ⟨a, v⟩ := x
    simp only [List.cons_append, Env.get]
    rw [if_neg (fun k => h (a, v) List.mem_cons_self k.symm), ih fun x hx => h x (List.mem_cons_of_mem _ hx)]
theorem get_append_yes (e1 e2 : Env) (s : Nat) (h : ∀ x ∈ e2, x.1 ≠ s) : Env.get (e1 ++ e2) s = Env.get e1 s := by
  induction e1 with
  | nil =>
    induction e2 with
    | nil => rfl
    | cons x e2 ih =>
      obtain ⟨a, v⟩ := x
      simp only [List.nil_append, Env.get] at ih ⊢
      rw [if_neg (fun k => h (a, v) List.mem_cons_self k.symm)]
      exact ih fun x hx => h x (List.mem_cons_of_mem _ hx)
  | cons x e1 ih =>
    obtain ⟨a, v⟩ := x
    simp only [List.cons_append, Env.get]
    split
    · rfl
    · exact ih
theorem exists_repr (t : BT AV) : ∃ e : Env, Repr e t := by
  induction t with
  | nil => exact ⟨[], fun s => rfl⟩
  | node l v r ihl ihr =>
    obtain ⟨el, hl⟩ := ihl
    obtain ⟨er, hr⟩ := ihr
    refine ⟨(0, v) :: ((el.map fun x => (2 * x.1 + 1, x.2)) ++ (er.map fun x => (2 * x.1 + 2, x.2))), fun s => ?_⟩
    cases s with
    | zero => rfl
    | succ k =>
      simp only [Env.get]
      rw [if_neg (by omega)]
      show _ = BT.get .junk (.node l v r) (k + 1)
      rw [get_succ]
      split
      · rename_i hk
        rw [get_append_yes _ _ _ (fun x hx => by
          simp only [List.mem_map] at hx
          obtain ⟨y, _, rfl⟩ := hx
          omega)]
        have := (get_map (fun a => 2 * a + 1) (by intro a b h; omega) el).1 (k / 2)
        rw [show 2 * (k / 2) + 1 = k + 1 by omega] at this
        rw [this]
        exact hl _
      · rename_i hk
        rw [get_append_no _ _ _ (fun x hx => by
          simp only [List.mem_map] at hx
          obtain ⟨y, _, rfl⟩ := hx
          omega)]
        have := (get_map (fun a => 2 * a + 2) (by intro a b h; omega) er).1 (k / 2)
        rw [show 2 * (k / 2) + 2 = k + 1 by omega] at this
        rw [this]
        exact hr _
theorem Repr.ev {e : Env} {t : BT AV} (h : Repr e t) (x : Operand) : ev1 t x = e.ev x := by
  cases x with
  | tmp s => exact (h s).symm
  | _ => rfl
/-- A result put into its slot. -/
def putT (t : BT AV) : Option Nat → AV → BT AV
  | none, _ => t
  | some d, x => BT.slow .junk x t d
theorem putE_eq (d : Option Nat) (v : AV) (e : BT AV) (k : BT AV → R) : putE d v e k = k (putT e d v) := by
  cases d with
  | none => rfl
  | some d => change (BT.putK .junk v 24 e d k) = _; rw [putK_eq]; rfl
theorem Repr.put {e : Env} {t : BT AV} (h : Repr e t) (d : Option Nat) (v : AV) : Repr (e.put d v) (putT t d v) := by
  intro s
  rw [Env.put_get]
  cases d with
  | none => simpa [putT] using h s
  | some d =>
    simp only [putT, slot, Option.some.injEq]
    rw [slow_get]
    by_cases hs : s = d
    · subst hs; simp
    · rw [if_neg (fun k => hs k.symm), if_neg hs]; exact h s
/-- Objects as a list. -/
noncomputable def heapOf (h : BT AObj) (n : Nat) : Heap := (List.range n).map (obj h)
@[simp] theorem heapOf_length (h : BT AObj) (n : Nat) : (heapOf h n).length = n := by simp [heapOf]
theorem heapOf_get (h : BT AObj) (n id : Nat) (hid : id < n) : (heapOf h n)[id]? = some (obj h id) := by simp [heapOf, hid]
theorem hok_heap (h : BT AObj) (n : Nat) : HOk h (heapOf h n) := fun id hid => .inr (heapOf_get h n id (by simpa using hid))
theorem hok_nil (H : Heap) : HOk .nil H := fun id _ => .inl rfl
noncomputable def effT (h : BT AObj) (n : Nat) : Eff → BT AObj
  | .keep => h
  | .push o => BT.slow .dead o h n
  | .set id o => BT.slow .dead o h id
def effN (n : Nat) : Eff → Nat
  | .push _ => n + 1
  | _ => n
theorem effK_eq (eff : Eff) (h : BT AObj) (n : Nat) (k : BT AObj → Nat → R) : effK eff h n k = k (effT h n eff) (effN n eff) := by
  cases eff with
  | keep => rfl
  | push o => change (objK o fun o => BT.putK .dead o 24 h n fun h' => k h' (Nat.succ n)) = _; rw [objK_eq, putK_eq]; rfl
  | set id o => change (objK o fun o => BT.putK .dead o 24 h id fun h' => k h' n) = _; rw [objK_eq, putK_eq]; rfl
theorem heapOf_eff (h : BT AObj) (n : Nat) (eff : Eff) : heapOf (effT h n eff) (effN n eff) = eff.app (heapOf h n) := by
  cases eff with
  | keep => rfl
  | push o =>
    simp only [effT, effN, heapOf, app_push, List.range_succ, List.map_append, List.map_cons, List.map_nil]
    congr 1
    · refine List.map_congr_left fun i hi => ?_
      rw [List.mem_range] at hi
      show BT.get _ _ _ = _
      rw [slow_get, if_neg (by omega)]
      rfl
    · show [BT.get _ _ _] = _
      rw [slow_get, if_pos rfl]
  | set id o =>
    simp only [effT, effN, app_set]
    refine List.ext_getElem? fun i => ?_
    rw [List.getElem?_set]
    simp only [heapOf_length]
    by_cases hi : i < n
    · rw [heapOf_get _ _ _ hi, heapOf_get _ _ _ hi]
      show some (BT.get _ _ _) = _
      rw [slow_get]
      by_cases h1 : i = id
      · subst h1; simp [hi]
      · rw [if_neg h1, if_neg (fun k => h1 k.symm)]; rfl
    · rw [List.getElem?_eq_none (by simp; omega), List.getElem?_eq_none (by simp; omega)]
      split
      · rw [if_neg (by omega)]
      · rfl
theorem plainK_eq {r : R1} {d : Option Nat} {e : BT AV} {h : BT AObj} {n : Nat} {k : St → Option R} {z : R} (hk : plainK r d e h n k = some z) : ∃ v eff, r = some (v, eff) ∧ k ⟨putT e d v, effT h n eff, effN n eff⟩ = some z := by
  cases r with
  | none => cases hk
  | some p =>
    obtain ⟨v, eff⟩ := p
    change avK v (fun v => effK eff h n fun h n => putE d v e fun e => k ⟨e, h, n⟩) = some z at hk
    rw [avK_eq, effK_eq, putE_eq] at hk
    exact ⟨v, eff, rfl, hk⟩
end Go.Ab
end
