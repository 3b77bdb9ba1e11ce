/- A part of a proof: rules for reading Go code as code over plain values, and what follows for this program. Its conditions stand in each statement. -/
import Derived.Test.YtackcjahocaonaaGreatDoorTiRl
section
namespace Go.Proofs
open Go.Ab
set_option maxRecDepth 100000
set_option linter.unusedSimpArgs false
set_option linter.unusedVariables false
def asciiCells (s : List UInt8) : List AV := (List.range 256).map fun i => .bool (s.contains (UInt8.ofNat i))
theorem asciiCells_length (s : List UInt8) : (asciiCells s).length = 256 := by simp [asciiCells]
theorem asciiCells_under (ty : TypeId) (s : List UInt8) (n : Nat) : (AObj.cells ty (asciiCells s)).under n := by
  simp only [AObj.under]
  rw [unders_iff]
  intro x hx
  simp only [asciiCells, List.mem_map] at hx
  obtain ⟨i, _, rfl⟩ := hx
  simp only [AV.under]
theorem asciiCells_set (s : List UInt8) (b : UInt8) : (asciiCells s).take b.toNat ++ AV.bool true :: (asciiCells s).drop (b.toNat + 1) = asciiCells (s ++ [b]) := by
  have hb := b.toNat_lt
  have hset : (asciiCells s).take b.toNat ++ AV.bool true :: (asciiCells s).drop (b.toNat + 1) = (asciiCells s).set b.toNat (.bool true) := by rw [List.set_eq_take_append_cons_drop, if_pos (by rw [asciiCells_length]; omega)]
  rw [hset]
  refine List.ext_getElem? fun i => ?_
  rw [List.getElem?_set]
  simp only [asciiCells, List.length_map, List.length_range, List.getElem?_map, List.getElem?_range]
  by_cases h : b.toNat = i
  · subst h
    have h2 : b.toNat < 256 := by omega
    simp [List.getElem?_range h2, h2]
  · by_cases h2 : i < 256
    · simp only [h, if_false, List.getElem?_range h2, Option.map_some, List.contains_append, Option.some.injEq, AV.bool.injEq]
      have : UInt8.ofNat i ≠ b := by
        rintro rfl
        apply h
        simp
        omega
      simp [this]
    · simp [h, h2]
theorem asciiCells_one (s : List UInt8) : ∀ x ∈ asciiCells s, x.one = true := by
  intro x hx
  simp only [asciiCells, List.mem_map] at hx
  obtain ⟨i, _, rfl⟩ := hx
  rfl
theorem asciiCells_take (s : List UInt8) : (asciiCells s).take 256 = asciiCells s := List.take_of_length_le (by rw [asciiCells_length]; omega)
theorem wrap64 {x : Int} (h0 : -9223372036854775808 ≤ x) (h1 : x < 9223372036854775808) : IntKind.wrap .i64 x = x := by
  simp [IntKind.wrap, IntKind.bits, IntKind.signed]
  omega
theorem makeASCIISet_ok (s : List UInt8) (hs : ∀ b ∈ s, b.toNat < 128) (hl : s.length < 9223372036854775807) : PureFn Tryz.prog 183 [.str s] (.tup [.agg (asciiCells s), .bool true]) := by
  refine pure_of_body' Tryz.func183 rfl Tryz.ntmps183 (by kernel_rfl) (by simp) fun H hH => ?_
  repeat (any_goals (first
    | refine awp_seq ?_ | refine awp_block ?_ | refine awp_skip ?_ | refine awp_ret ?_ | refine awp_exit ?_
    | (with_reducible first | refine thenQ_normal ?_ | refine thenQ_ret ?_ | refine thenQ_exit ?_ | refine blockQ_normal ?_ | refine blockQ_ret ?_ | refine blockQ_here ?_ | refine blockQ_other (by decide) ?_)
    | (refine awp_cond rfl (fun hc => ?_) (fun hc => ?_) <;> (try (exfalso; first | (simp_all; done) | (simp at hc; omega))))
    | (refine awp_region_k fun X hX => ?_; simp)
    | (refine awp_drawn_k [] (by kernel_rfl) (by kernel_rfl) fun X hX => ?_; simp)
    | (refine hX _ _ ?_; clear hX X)
    | (refine And.intro (by first | omega | assumption) ?_)))
  refine awp_loop' (fun m e H' => ∃ j : Nat, j ≤ s.length ∧ m = s.length - j ∧ e = [(0, .str s), (2, .ptr H.length 0), (3, .bool false), (4, .int .i64 j)] ∧ H' = H ++ [.cells 227 (asciiCells (s.take j))]) s.length [(0, .str s), (2, .ptr H.length 0), (3, .bool false), (4, .int .i64 0)] ⟨0, by omega, by omega, by simp, ?_⟩ (by simp) ?_
  · simp only [List.take_zero]
    congr 3
  rintro m e1 H1 ⟨j, hj, rfl, rfl, rfl⟩
  by_cases hlt : j < s.length
  · have hb : s[j]? = some s[j] := List.getElem?_eq_getElem hlt
    have h128 := hs _ (List.getElem_mem hlt)
    have hw : IntKind.wrap .i64 (j + 1) = j + 1 := wrap64 (by omega) (by omega)
    have h256 := asciiCells_length (s.take j)
    repeat (any_goals (first
      | refine awp_seq ?_ | refine awp_block ?_ | refine awp_skip ?_ | refine awp_ret ?_ | refine awp_exit ?_
      | (with_reducible first | refine thenQ_normal ?_ | refine thenQ_ret ?_ | refine thenQ_exit ?_ | refine blockQ_normal ?_ | refine blockQ_ret ?_ | refine blockQ_here ?_ | refine blockQ_other (by decide) ?_)
      | (refine awp_cond rfl (fun hc => ?_) (fun hc => ?_) <;> (try (exfalso; first | (simp_all; done) | (simp at hc; omega))))
      | (refine awp_region_k fun X hX => ?_; simp [hb, h256, hw])
      | (refine awp_drawn_k [] (by kernel_rfl) (by kernel_rfl) fun X hX => ?_; simp [hb, h256, hw])
      | (refine hX _ _ ?_; clear hX X)
      | (refine And.intro (by first | omega | assumption) ?_)))
    rw [asciiCells_set, List.take_append_getElem hlt]
    dsimp only
    refine ⟨s.length - (j + 1), [(0, .str s), (2, .ptr H.length 0), (3, .bool false), (4, .int .i64 (j + 1))], H ++ [.cells 227 (asciiCells (s.take (j + 1)))], [], ⟨j + 1, by omega, rfl, by simp, rfl⟩, by omega, by simp, by simp, by simp, by simp, ?_⟩
    exact heap_under hH (by simp [asciiCells_under])
  · have hj : j = s.length := by omega
    subst hj
    have h1 := asciiCells_one s
    have hd : (asciiCells s).drop 256 = [] := List.drop_of_length_le (by rw [asciiCells_length]; omega)
    repeat (any_goals (first
      | refine awp_seq ?_ | refine awp_block ?_ | refine awp_skip ?_ | refine awp_ret ?_ | refine awp_exit ?_
      | (with_reducible first | refine thenQ_normal ?_ | refine thenQ_ret ?_ | refine thenQ_exit ?_ | refine blockQ_normal ?_ | refine blockQ_ret ?_ | refine blockQ_here ?_ | refine blockQ_other (by decide) ?_)
      | (refine awp_cond rfl (fun hc => ?_) (fun hc => ?_) <;> (try (exfalso; first | (simp_all; done) | (simp at hc; omega))))
      | (refine awp_region_k fun X hX => ?_; simp [asciiCells_length, asciiCells_take, hd])
      | (refine awp_drawn_k [] (by kernel_rfl) (by kernel_rfl) fun X hX => ?_; simp [asciiCells_length, asciiCells_take, hd])
      | (refine hX _ _ ?_; clear hX X)
      | (refine And.intro (by first | omega | assumption) ?_)))
    simp [Tryz.results183, asciiCells_length, asciiCells_take]
    simp [asciiCells]
theorem contains_ok (cs : List UInt8) (b : UInt8) (id : Nat) (H : Heap) {ty : TypeId} (hid : H[id]? = some (.cells ty (asciiCells cs))) : DCall Tryz.prog 249 [.ptr id 0, .int .u8 b.toNat] H (.ret (.bool (cs.contains b))) H := by
  refine dcall_of_body' Tryz.func249 rfl Tryz.ntmps249 (by kernel_rfl) (by simp) fun hH => ?_
  have hb := b.toNat_lt
  have hg : (asciiCells cs)[b.toNat]? = some (.bool (cs.contains b)) := by
    have h2 : b.toNat < 256 := by omega
    simp [asciiCells, List.getElem?_range h2]
  repeat (any_goals (first
    | refine awp_seq ?_ | refine awp_block ?_ | refine awp_skip ?_ | refine awp_ret ?_ | refine awp_exit ?_
    | (with_reducible first | refine thenQ_normal ?_ | refine thenQ_ret ?_ | refine thenQ_exit ?_ | refine blockQ_normal ?_ | refine blockQ_ret ?_ | refine blockQ_here ?_ | refine blockQ_other (by decide) ?_)
    | (refine awp_cond rfl (fun hc => ?_) (fun hc => ?_) <;> (try (exfalso; first | (simp_all; done) | (simp at hc; omega))))
    | (refine awp_region_k fun X hX => ?_; simp [hid, hg])
    | (refine awp_drawn_k [] (by kernel_rfl) (by kernel_rfl) fun X hX => ?_; simp [hid, hg])
    | (refine hX _ _ ?_; clear hX X)
    | (refine And.intro (by first | omega | assumption) ?_)))
  simp [Tryz.results249]
def inSet (cs : List UInt8) (b : UInt8) : Bool := cs.contains b
theorem trimLeftASCII_ok (cs s : List UInt8) (id : Nat) (H : Heap) {ty : TypeId} (hid : H[id]? = some (.cells ty (asciiCells cs))) (hl : s.length < 9223372036854775807) : DCall Tryz.prog 184 [.str s, .ptr id 0] H (.ret (.str (s.dropWhile (inSet cs)))) H := by
  refine dcall_of_body' Tryz.func184 rfl Tryz.ntmps184 (by kernel_rfl) (by simp) fun hH => ?_
  repeat (any_goals (first
    | refine awp_seq ?_ | refine awp_block ?_ | refine awp_skip ?_ | refine awp_ret ?_ | refine awp_exit ?_
    | (with_reducible first | refine thenQ_normal ?_ | refine thenQ_ret ?_ | refine thenQ_exit ?_ | refine blockQ_normal ?_ | refine blockQ_ret ?_ | refine blockQ_here ?_ | refine blockQ_other (by decide) ?_)
    | (refine awp_cond rfl (fun hc => ?_) (fun hc => ?_) <;> (try (exfalso; first | (simp_all; done) | (simp at hc; omega))))
    | (refine awp_region_k fun X hX => ?_; simp)
    | (refine awp_drawn_k [] (by kernel_rfl) (by kernel_rfl) fun X hX => ?_; simp)
    | (refine hX _ _ ?_; clear hX X)
    | (refine And.intro (by first | omega | assumption) ?_)))
  refine awp_loop' (fun m e H' => ∃ t : List UInt8, t.dropWhile (inSet cs) = s.dropWhile (inSet cs) ∧ t.length ≤ s.length ∧ m = t.length ∧ e = [(0, .str t), (1, .ptr id 0), (4, .str [])] ∧ H' = H) s.length [(0, .str s), (1, .ptr id 0), (4, .str [])] ⟨s, rfl, by omega, rfl, rfl, rfl⟩ (by simp) ?_
  rintro m e H1 ⟨t, ht, htl, rfl, rfl, rfl⟩
  have hid' : id < H1.length := by rw [List.getElem?_eq_some_iff] at hid; exact hid.1
  cases t with
  | nil =>
    repeat (any_goals (first
      | refine awp_seq ?_ | refine awp_block ?_ | refine awp_skip ?_ | refine awp_ret ?_ | refine awp_exit ?_
      | (with_reducible first | refine thenQ_normal ?_ | refine thenQ_ret ?_ | refine thenQ_exit ?_ | refine blockQ_normal ?_ | refine blockQ_ret ?_ | refine blockQ_here ?_ | refine blockQ_other (by decide) ?_)
      | (refine awp_cond rfl (fun hc => ?_) (fun hc => ?_) <;> (try (exfalso; first | (simp_all; done) | (simp at hc; omega))))
      | (refine awp_region_k fun X hX => ?_; simp)
      | (refine awp_drawn_k [] (by kernel_rfl) (by kernel_rfl) fun X hX => ?_; simp)
      | (refine hX _ _ ?_; clear hX X)
      | (refine And.intro (by first | omega | assumption) ?_)))
    simp [Tryz.results184, ← ht]
  | cons b t =>
    have kc := contains_ok cs b id H1 hid
    repeat (any_goals (first
      | refine awp_seq ?_ | refine awp_block ?_ | refine awp_skip ?_ | refine awp_ret ?_ | refine awp_exit ?_
      | (with_reducible first | refine thenQ_normal ?_ | refine thenQ_ret ?_ | refine thenQ_exit ?_ | refine blockQ_normal ?_ | refine blockQ_ret ?_ | refine blockQ_here ?_ | refine blockQ_other (by decide) ?_)
      | (refine awp_cond rfl (fun hc => ?_) (fun hc => ?_) <;> (try (exfalso; first | (simp_all; done) | (simp at hc; omega))))
      | (refine awp_region_k fun X hX => ?_; simp)
      | (refine awp_drawn_k [] (by kernel_rfl) (by kernel_rfl) fun X hX => ?_; simp)
      | (refine gcall rfl rfl (by simp) (by simp) rfl (kc) ?_; simp)
      | (refine hX _ _ ?_; clear hX X)
      | (refine And.intro (by first | omega | assumption) ?_)))
    · have hb : inSet cs b = false := by simpa [inSet] using hc
      simp [Tryz.results184, ← ht, List.dropWhile_cons, hb]
    · have hb : inSet cs b = true := by simpa [inSet] using hc
      refine ⟨t.length, [(0, .str t), (1, .ptr id 0), (4, .str [])], H1, [], ⟨t, by rw [← ht, List.dropWhile_cons, if_pos hb], by simp at htl; omega, rfl, rfl, rfl⟩, by simp, by simp, by simp, by simp, by simp [hid'], hH⟩
def trimRightS (cs s : List UInt8) : List UInt8 := (s.reverse.dropWhile (inSet cs)).reverse
theorem trimRightASCII_ok (cs s : List UInt8) (id : Nat) (H : Heap) {ty : TypeId} (hid : H[id]? = some (.cells ty (asciiCells cs))) (hl : s.length < 9223372036854775807) : DCall Tryz.prog 185 [.str s, .ptr id 0] H (.ret (.str (trimRightS cs s))) H := by
  refine dcall_of_body' Tryz.func185 rfl Tryz.ntmps185 (by kernel_rfl) (by simp) fun hH => ?_
  repeat (any_goals (first
    | refine awp_seq ?_ | refine awp_block ?_ | refine awp_skip ?_ | refine awp_ret ?_ | refine awp_exit ?_
    | (with_reducible first | refine thenQ_normal ?_ | refine thenQ_ret ?_ | refine thenQ_exit ?_ | refine blockQ_normal ?_ | refine blockQ_ret ?_ | refine blockQ_here ?_ | refine blockQ_other (by decide) ?_)
    | (refine awp_cond rfl (fun hc => ?_) (fun hc => ?_) <;> (try (exfalso; first | (simp_all; done) | (simp at hc; omega))))
    | (refine awp_region_k fun X hX => ?_; simp)
    | (refine awp_drawn_k [] (by kernel_rfl) (by kernel_rfl) fun X hX => ?_; simp)
    | (refine hX _ _ ?_; clear hX X)
    | (refine And.intro (by first | omega | assumption) ?_)))
  refine awp_loop' (fun m e H' => ∃ t : List UInt8, trimRightS cs t = trimRightS cs s ∧ t.length ≤ s.length ∧ m = t.length ∧ e = [(0, .str t), (1, .ptr id 0), (4, .str [])] ∧ H' = H) s.length [(0, .str s), (1, .ptr id 0), (4, .str [])] ⟨s, rfl, by omega, rfl, rfl, rfl⟩ (by simp) ?_
  rintro m e H1 ⟨t, ht, htl, rfl, rfl, rfl⟩
  have hid' : id < H1.length := by rw [List.getElem?_eq_some_iff] at hid; exact hid.1
  rcases List.eq_nil_or_concat t with rfl | ⟨t, b, rfl⟩
  · repeat (any_goals (first
      | refine awp_seq ?_ | refine awp_block ?_ | refine awp_skip ?_ | refine awp_ret ?_ | refine awp_exit ?_
      | (with_reducible first | refine thenQ_normal ?_ | refine thenQ_ret ?_ | refine thenQ_exit ?_ | refine blockQ_normal ?_ | refine blockQ_ret ?_ | refine blockQ_here ?_ | refine blockQ_other (by decide) ?_)
      | (refine awp_cond rfl (fun hc => ?_) (fun hc => ?_) <;> (try (exfalso; first | (simp_all; done) | (simp at hc; omega))))
      | (refine awp_region_k fun X hX => ?_; simp)
      | (refine awp_drawn_k [] (by kernel_rfl) (by kernel_rfl) fun X hX => ?_; simp)
      | (refine hX _ _ ?_; clear hX X)
      | (refine And.intro (by first | omega | assumption) ?_)))
    rw [← ht]
    simp [Tryz.results185, trimRightS]
  · have kc := contains_ok cs b id H1 hid
    have hw : IntKind.wrap .i64 (t.length : Int) = t.length := by rw [wrap64] <;> simp at htl <;> omega
    have hg : (t ++ [b])[t.length]? = some b := by simp
    repeat (any_goals (first
      | refine awp_seq ?_ | refine awp_block ?_ | refine awp_skip ?_ | refine awp_ret ?_ | refine awp_exit ?_
      | (with_reducible first | refine thenQ_normal ?_ | refine thenQ_ret ?_ | refine thenQ_exit ?_ | refine blockQ_normal ?_ | refine blockQ_ret ?_ | refine blockQ_here ?_ | refine blockQ_other (by decide) ?_)
      | (refine awp_cond rfl (fun hc => ?_) (fun hc => ?_) <;> (try (exfalso; first | (simp_all; done) | (simp at hc; omega))))
      | (refine awp_region_k fun X hX => ?_; simp [hw, hg])
      | (refine awp_drawn_k [] (by kernel_rfl) (by kernel_rfl) fun X hX => ?_; simp [hw, hg])
      | (refine gcall rfl rfl (by simp) (by simp) rfl (kc) ?_; simp [hw, hg])
      | (refine hX _ _ ?_; clear hX X)
      | (refine And.intro (by first | omega | assumption) ?_)))
    · have hb : inSet cs b = false := by simpa [inSet] using hc
      rw [← ht]
      simp [Tryz.results185, trimRightS, hb]
    · have hb : inSet cs b = true := by simpa [inSet] using hc
      refine ⟨t.length, [(0, .str t), (1, .ptr id 0), (4, .str [])], H1, [], ⟨t, by rw [← ht]; simp [trimRightS, hb], by simp at htl; omega, rfl, rfl, rfl⟩, by simp, by simp, by simp, by simp, by simp [hid'], hH⟩
def trimS (cs s : List UInt8) : List UInt8 := (trimRightS cs s).dropWhile (inSet cs)
theorem trimRightS_length (cs s : List UInt8) : (trimRightS cs s).length ≤ s.length := by
  have := (List.dropWhile_sublist (l := s.reverse) (inSet cs)).length_le
  simpa [trimRightS] using this
theorem trim_ok (cs s : List UInt8) (hcs : ∀ b ∈ cs, b.toNat < 128) (hcl : 2 ≤ cs.length) (hcl2 : cs.length < 9223372036854775807) (hl : s.length < 9223372036854775807) : PureFn Tryz.prog 121 [.str s, .str cs] (.str (trimS cs s)) := by
  refine pure_of_body' Tryz.func121 rfl Tryz.ntmps121 (by kernel_rfl) (by simp) fun H hH => ?_
  obtain ⟨c0, c1, cr, rfl⟩ : ∃ c0 c1 cr, cs = c0 :: c1 :: cr := by
    match cs, hcl with
    | c0 :: c1 :: cr, _ => exact ⟨c0, c1, cr, rfl⟩
  have h1 : ((cr.length : Int) + 1 + 1 = 1) = False := by simp; omega
  have k0 := makeASCIISet_ok _ hcs hcl2
  have hr := trimRightS_length (c0 :: c1 :: cr) s
  have ki : (H ++ [AObj.cells 227 (asciiCells (c0 :: c1 :: cr))])[H.length]? = some (.cells 227 (asciiCells (c0 :: c1 :: cr))) := by simp
  have kr := trimRightASCII_ok _ s _ _ ki hl
  have kl := trimLeftASCII_ok _ (trimRightS (c0 :: c1 :: cr) s) _ _ ki (by omega)
  have h2 := asciiCells_one (c0 :: c1 :: cr)
  have hd : (asciiCells (c0 :: c1 :: cr)).drop 256 = [] := List.drop_of_length_le (by rw [asciiCells_length]; omega)
  repeat (any_goals (first
    | refine awp_seq ?_ | refine awp_block ?_ | refine awp_skip ?_ | refine awp_ret ?_ | refine awp_exit ?_
    | (with_reducible first | refine thenQ_normal ?_ | refine thenQ_ret ?_ | refine thenQ_exit ?_ | refine blockQ_normal ?_ | refine blockQ_ret ?_ | refine blockQ_here ?_ | refine blockQ_other (by decide) ?_)
    | (refine awp_cond rfl (fun hc => ?_) (fun hc => ?_) <;> (try (exfalso; first | (simp_all; done) | (simp at hc; omega))))
    | (refine awp_region_k fun X hX => ?_; simp [h1, asciiCells_length, hd])
    | (refine awp_drawn_k [] (by kernel_rfl) (by kernel_rfl) fun X hX => ?_; simp [h1, asciiCells_length, hd])
    | (refine gcallP rfl rfl (by simp) (by simp) rfl (k0) ?_; simp [h1, asciiCells_length, hd])
    | (refine gcallG rfl rfl rfl (by simp) rfl (k0) (by simp) ?_; simp [h1, asciiCells_length, hd])
    | (refine dgcallP rfl (fun _ => rfl) rfl rfl (by simp) (by simp) rfl (k0) ?_; simp [h1, asciiCells_length, hd])
    | (refine dgcallG rfl (fun _ => rfl) rfl rfl rfl (by simp) rfl (k0) (by simp) ?_; simp [h1, asciiCells_length, hd])
    | (refine gcall rfl rfl (by simp) (by simp) rfl (kr) ?_; simp [h1, asciiCells_length, hd])
    | (refine gcall rfl rfl (by simp) (by simp) rfl (kl) ?_; simp [h1, asciiCells_length, hd])
    | (refine hX _ _ ?_; clear hX X)
    | (refine And.intro (by first | omega | assumption) ?_)))
  · simp at hc
    subst hc
    simp [Tryz.results121, trimS, trimRightS]
  · simp [Tryz.results121, trimS]
end Go.Proofs
end
