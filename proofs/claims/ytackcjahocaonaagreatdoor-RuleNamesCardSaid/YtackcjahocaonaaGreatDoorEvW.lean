/- A part of a proof: rules for reading Go code as code over plain values, and what follows for this program. Its conditions stand in each statement. -/
import Derived.Test.YtackcjahocaonaaGreatDoorEvU
section
set_option linter.unusedSimpArgs false
set_option linter.unusedVariables false
/-! Rows that nobody writes any more, behind a function's end. -/
namespace Go.Ab
open Classical in
/-- Blocks of rows from number n0 on are as they are for good. -/
noncomputable def Ghost.snapAll (G : Ghost) (H : Heap) (w : World) (n0 : Nat) : Ghost :=
  { G with snap := fun b => if (∃ id ty g sz xs, n0 ≤ id ∧ H[id]? = some (.row ty g sz xs) ∧ (G.loc id).isNil = false ∧ (G.loc id).block = b) then w.heap[b]? else G.snap b }
theorem snapAll_ext {G : Ghost} {H : Heap} {w : World} (hR : Rel G H w) (n0 n : Nat) : Ext n n G (G.snapAll H w n0) where
  le := Nat.le_refl _
  snap b o h := by
    simp only [Ghost.snapAll]
    split
    · exact hR.snap b o h
    · exact h
  gen _ _ := Nat.le_refl _
  same _ _ _ := rfl
  fixed _ _ _ := rfl
  born _ _ _ _ h := h
theorem snapAll_row {G : Ghost} {H : Heap} {w : World} {n0 id g sz : Nat} {ty : TypeId} {xs : List AV} (h0 : n0 ≤ id) (hH : H[id]? = some (.row ty g sz xs)) (hn : (G.loc id).isNil = false) : (G.snapAll H w n0).snap (G.loc id).block = w.heap[(G.loc id).block]? := by
  simp only [Ghost.snapAll]
  rw [if_pos ⟨id, ty, g, sz, xs, h0, hH, hn, rfl⟩]
/-- What stands before n0 goes on; the rest is let go. -/
theorem Rel.sealRest {G : Ghost} {H0 L : Heap} {w : World} (hR : Rel G (H0 ++ L) w) (hu : ∀ o ∈ H0, o.under H0.length) : Rel (G.snapAll (H0 ++ L) w H0.length) H0 w := by
  have hd := hR.drop hu
  have hsub : ∀ {j : Nat} {x : AObj}, H0[j]? = some x → (H0 ++ L)[j]? = some x := by
    intro j x hx
    rw [List.getElem?_append_left (by rw [List.getElem?_eq_some_iff] at hx; exact hx.1)]
    exact hx
  refine ⟨fun b o h => ?_, fun id o h => (hd.obj id o h).mono (snapAll_ext hR _ _) (fun _ => rfl), fun id o h ho => ⟨?_, (hd.own id o h ho).2⟩, hd.apart⟩
  · simp only [Ghost.snapAll] at h
    split at h
    · exact h
    · exact hR.snap b o h
  · have hown := hd.own id o h ho
    simp only [Ghost.snapAll]
    rw [if_neg]
    · exact hown.1
    · rintro ⟨j, ty, g, sz, xs, hj, hH, hn, hb⟩
      have hne : j ≠ id := by
        rintro rfl
        rw [List.getElem?_eq_some_iff] at h
        exact absurd h.1 (by omega)
      exact hR.apart j id _ _ hne hH (hsub h) (by simp [owns, hn]) ho hb
theorem goSeal_cells {n : Nat} {G G' : Ghost} {f : AV → Option AV} (hf : ∀ x y v, f x = some y → V n G x v → V n G' y v) : ∀ (xs ys : List AV) (c : Array Value) (o : Nat), goSeal f xs = some ys → Vcells n G xs c o → Vcells n G' ys c o ∧ ys.length = xs.length := by
  intro xs
  induction xs with
  | nil => intro ys c o h k; simp only [goSeal, Option.some.injEq] at h; subst h; exact ⟨by simp only [Vcells], rfl⟩
  | cons x xs ih =>
    intro ys c o h k
    simp only [goSeal] at h
    split at h
    · rename_i y ys' h1 h2
      cases h
      simp only [Vcells] at k ⊢
      obtain ⟨⟨v, hv, k1⟩, k2⟩ := k
      obtain ⟨r1, r2⟩ := ih _ _ _ h2 k2
      exact ⟨⟨⟨v, hv, hf _ _ _ h1 k1⟩, r1⟩, by simp [r2]⟩
    · cases h
/-- Sealing keeps what is one cell one cell. -/
theorem sealF_agg {h : BT AObj} {n0 f : Nat} {x y : AV} (k : sealF h n0 f x = some y) : (∃ xs ys, x = .agg xs ∧ y = .agg ys ∧ ∃ f', f = f' + 1 ∧ goSeal (sealF h n0 f') xs = some ys) ∨ ((∀ xs, x ≠ .agg xs) ∧ ∀ ys, y ≠ .agg ys) := by
  cases f with
  | zero => simp only [sealF, reduceCtorEq] at k
  | succ f =>
    cases x <;> simp only [sealF] at k
    case agg xs =>
      split at k
      · rename_i ys hg
        cases k
        exact .inl ⟨xs, ys, rfl, rfl, f, rfl, hg⟩
      · cases k
    case view =>
      right
      refine ⟨by simp, fun ys e => ?_⟩
      subst e
      split at k
      · cases k
      · split at k
        · split at k
          · split at k <;> cases k
          · cases k
        · cases k
    case tup =>
      right
      refine ⟨by simp, fun ys e => ?_⟩
      subst e
      split at k <;> cases k
    all_goals
      right
      refine ⟨by simp, fun ys e => ?_⟩
      subst e
      cases k
theorem Vrow_cons_one {n : Nat} {G : Ghost} {size : Nat} {x : AV} {xs : List AV} {c : Array Value} {o : Nat} (h : ∀ cs, x ≠ .agg cs) : Vrow n G size (x :: xs) c o ↔ (size = 1 ∧ ∃ v, c[o]? = some v ∧ V n G x v) ∧ Vrow n G size xs c (o + size) := by
  cases x <;> simp only [Vrow] <;> exact absurd rfl (h _)
theorem goSeal_row {n : Nat} {G G' : Ghost} {h : BT AObj} {n0 f : Nat} (hf : ∀ f', f' ≤ f → ∀ x y v, sealF h n0 f' x = some y → V n G x v → V n G' y v) {size : Nat} : ∀ (xs ys : List AV) (c : Array Value) (o : Nat), goSeal (sealF h n0 f) xs = some ys → Vrow n G size xs c o → Vrow n G' size ys c o ∧ ys.length = xs.length := by
  intro xs
  induction xs with
  | nil => intro ys c o h k; simp only [goSeal, Option.some.injEq] at h; subst h; exact ⟨by simp only [Vrow], rfl⟩
  | cons x xs ih =>
    intro ys c o h k
    simp only [goSeal] at h
    split at h
    · rename_i y ys' h1 h2
      cases h
      rcases sealF_agg h1 with ⟨as, bs, rfl, rfl, f', rfl, hg⟩ | ⟨n1, n2⟩
      · simp only [Vrow] at k ⊢
        obtain ⟨r1, r2⟩ := ih _ _ _ h2 k.2
        obtain ⟨r3, r4⟩ := goSeal_cells (fun x y v => hf f' (by omega) x y v) _ _ _ _ hg k.1.2
        exact ⟨⟨⟨by rw [r4]; exact k.1.1, r3⟩, r1⟩, by simp [r2]⟩
      · rw [Vrow_cons_one n1] at k
        rw [Vrow_cons_one n2]
        obtain ⟨⟨k0, v, hv, k1⟩, k2⟩ := k
        obtain ⟨r1, r2⟩ := ih _ _ _ h2 k2
        exact ⟨⟨⟨k0, v, hv, hf f (Nat.le_refl _) _ _ _ h1 k1⟩, r1⟩, by simp [r2]⟩
    · cases h
theorem sealF_V {G : Ghost} {H : Heap} {w : World} {h : BT AObj} {n0 : Nat} (hR : Rel G H w) (hh : HOk h H) : ∀ (f : Nat) (x y : AV) (v : Value), sealF h n0 f x = some y → V H.length G x v → V H.length (G.snapAll H w n0) y v := by
  intro f
  induction f using Nat.strongRecOn with
  | _ f ih =>
    intro x y v k hv
    cases f with
    | zero => simp only [sealF, reduceCtorEq] at k
    | succ f =>
      have same : y = x → V H.length (G.snapAll H w n0) y v := fun e => by subst e; exact V.mono (snapAll_ext hR _ _) _ _ hv
      have cells := fun xs ys c o => goSeal_cells (n := H.length) (G := G) (G' := G.snapAll H w n0) (fun x y v => ih f (by omega) x y v) xs ys c o
      cases x <;> simp only [sealF] at k
      case agg xs =>
        split at k
        · rename_i ys hg
          cases k
          simp only [V] at hv ⊢
          obtain ⟨vs, rfl, h1, h2⟩ := hv
          obtain ⟨r1, r2⟩ := cells _ _ _ _ hg h2
          exact ⟨vs, rfl, by rw [r2]; exact h1, r1⟩
        · cases k
      case tup xs =>
        split at k
        · rename_i ys hg
          cases k
          simp only [V] at hv ⊢
          obtain ⟨vs, rfl, h1, h2⟩ := hv
          obtain ⟨r1, r2⟩ := cells _ _ _ _ hg h2
          exact ⟨vs, rfl, by rw [r2]; exact h1, r1⟩
        · cases k
      case view id g off len =>
        split at k
        · cases k; exact same rfl
        · rename_i hle
          rw [ble_le] at hle
          split at k
          · rename_i ty g' sz xs hob
            split at k
            · rename_i hc
              simp only [Bool.and_eq_true, Nat.beq_eq, ble_le, lenK_eq, blt_lt] at hc
              obtain ⟨⟨rfl, hfit⟩, hlen⟩ := hc
              split at k
              · rename_i ys hg
                cases k
                have hv0 := hv
                simp only [V] at hv
                obtain ⟨hid, hgen, a, cap, rfl, hcap, hcur⟩ := hv
                have hH := hh.at hid hob (by simp)
                obtain ⟨hg', hfx, hsz, hro⟩ := hR.obj id _ hH
                rcases hro with ⟨_, hx⟩ | ⟨hnil, c, hw, hcs, hroom, hrow⟩
                · subst hx
                  simp at hfit
                  omega
                · rcases hcur hg'.symm with ⟨hn, _⟩ | ⟨_, ha, hr2⟩
                  · rw [hn] at hnil; cases hnil
                  · subst ha
                    have hsub : Vrow H.length G (G.loc id).size ((xs.drop off).take len) c ((G.loc id).base + off * (G.loc id).size) := by
                      refine Vrow_of fun i x hx => ?_
                      rw [List.getElem?_take] at hx
                      split at hx
                      · rw [List.getElem?_drop] at hx
                        have := Vrow_get hrow hx
                        rw [Nat.add_mul, ← Nat.add_assoc] at this
                        exact this
                      · cases hx
                    obtain ⟨r1, r2⟩ := goSeal_row (fun f' hf' => ih f' (by omega)) _ _ _ _ hg hsub
                    have hl : ys.length = len := by
                      rw [r2, List.length_take, List.length_drop]; omega
                    simp only [V]
                    right
                    refine ⟨_, _, cap, c, ty, (0, 0), _, by rw [hl], by rw [hl]; exact hcap, ?_, r1⟩
                    rw [snapAll_row hle hH hnil, hw]
              · cases k
            · cases k
          · cases k
      all_goals (cases k; exact same rfl)
end Go.Ab
end
