/- A part of a proof: rules for reading Go code as code over plain values, and what follows for this program. Its conditions stand in each statement. -/
import Derived.Test.YtackcjahocaonaaGreatDoorTiRl
section
namespace Go.Ab
set_option linter.unusedSimpArgs false
set_option linter.unusedVariables false
theorem mget_mput (es : List (Key × AV)) (k q : Key) (v : AV) : mget (mput es k v) q = if q = k then some v else mget es q := by
  induction es with
  | nil => simp only [mput, mget]
  | cons x r ih =>
    obtain ⟨p, u⟩ := x
    simp only [mput]
    by_cases h : k = p
    · subst h
      simp only [if_true, mget]
      by_cases h2 : q = k <;> simp [h2]
    · simp only [if_neg h, mget, ih]
      by_cases h2 : q = p
      · subst h2; simp [Ne.symm h]
      · simp [h2]
/-- A set as a map. -/
def smap (l : List Key) : List (Key × AV) := l.foldl (fun es k => mput es k (.bool true)) []
theorem smap_put (l : List Key) (k : Key) : mput (smap l) k (.bool true) = smap (l ++ [k]) := by simp [smap, List.foldl_append]
theorem smap_get (l : List Key) (k : Key) : mget (smap l) k = if k ∈ l then some (.bool true) else none := by
  suffices h : ∀ (l : List Key) (es : List (Key × AV)), mget (l.foldl (fun es k => mput es k (.bool true)) es) k = if k ∈ l then some (.bool true) else mget es k by
    exact h l []
  intro l
  induction l with
  | nil => intro es; simp
  | cons x xs ih =>
    intro es
    simp only [List.foldl_cons, ih, mget_mput, List.mem_cons]
    by_cases h1 : k = x
    · simp [h1]
    · by_cases h2 : k ∈ xs <;> simp [h1, h2]
theorem smap_getD (l : List Key) (k : Key) : (mget (smap l) k).getD (.bool false) = .bool (decide (k ∈ l)) := by
  rw [smap_get]
  by_cases h : k ∈ l <;> simp [h]
theorem mput_all {es : List (Key × AV)} {k : Key} {v : AV} (h : ∀ x ∈ es, x.2 = v) : ∀ x ∈ mput es k v, x.2 = v := by
  induction es with
  | nil => simp [mput]
  | cons y r ih =>
    obtain ⟨p, u⟩ := y
    simp only [mput]
    split
    · intro x hx
      rcases List.mem_cons.1 hx with rfl | hx
      · rfl
      · exact h x (List.mem_cons_of_mem _ hx)
    · intro x hx
      rcases List.mem_cons.1 hx with rfl | hx
      · exact h _ List.mem_cons_self
      · exact ih (fun x hx => h x (List.mem_cons_of_mem _ hx)) x hx
theorem smap_under {kt : KT} (l : List Key) (n : Nat) : (AObj.map kt (smap l)).under n := by
  have : ∀ (l : List Key) (es : List (Key × AV)), (∀ x ∈ es, x.2 = .bool true) → ∀ x ∈ l.foldl (fun es k => mput es k (.bool true)) es, x.2 = .bool true := by
    intro l
    induction l with
    | nil => intro es h; exact h
    | cons k l ih => intro es h; exact ih _ (mput_all h)
  simp only [AObj.under]
  intro x hx
  rw [this l [] (by simp) x hx]
  simp
end Go.Ab
end
