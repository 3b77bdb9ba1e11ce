/- A part of a proof: rules for reading Go code as code over plain values, and what follows for this program. Its conditions stand in each statement. -/
import Derived.Test.YtackcjahocaonaaGreatDoorTrim
import Derived.Test.YtackcjahocaonaaGreatDoorSets
section
namespace Go.Proofs
open Go.Ab
set_option maxRecDepth 100000
set_option linter.unusedSimpArgs false
set_option linter.unusedVariables false
def letteredB (r : Int) : Bool := (decide (97 ≤ r) && decide (r ≤ 122)) || (decide (65 ≤ r) && decide (r ≤ 90)) || (decide (161 ≤ r) && decide (r ≤ 1114111) && decide (r ≠ 65533) && !(decide (55296 ≤ r) && decide (r ≤ 57343)))
theorem lettered_ok (r : Int) : PureFn Tryz.prog 118 [.int .i32 r] (.bool (letteredB r)) := by
  refine pure_of_body' Tryz.func118 rfl Tryz.ntmps118 (by kernel_rfl) (by simp) fun H hH => ?_
  repeat (any_goals (first
    | refine awp_seq ?_ | refine awp_block ?_ | refine awp_skip ?_ | refine awp_ret ?_ | refine awp_exit ?_
    | (with_reducible first | refine thenQ_normal ?_ | refine thenQ_ret ?_ | refine thenQ_exit ?_ | refine blockQ_normal ?_ | refine blockQ_ret ?_ | refine blockQ_here ?_ | refine blockQ_other (by decide) ?_)
    | (refine awp_cond rfl (fun hc => ?_) (fun hc => ?_) <;> (try (exfalso; first | (simp_all; done) | (simp at hc; omega))))
    | (refine awp_region_k fun X hX => ?_; simp)
    | (refine awp_drawn_k [] (by kernel_rfl) (by kernel_rfl) fun X hX => ?_; simp)
    | (refine hX _ _ ?_; clear hX X)
    | (refine And.intro (by first | omega | assumption) ?_)))
  all_goals simp [Tryz.results118, letteredB, ishr] at *
  all_goals omega
structure Letter where
  rune : Int
  plus : Int
  minus : Int
  deriving DecidableEq, Inhabited
structure Alpha where
  feats : List (List UInt8)
  letters : List Letter
def Letter.av (l : Letter) : AV := .agg [.int .i32 l.rune, .int .u32 l.plus, .int .u32 l.minus]
def Alpha.av (a : Alpha) : AV := .agg [.lst (a.feats.map .str), .lst (a.letters.map Letter.av)]
def withinB (n : Nat) (p m : Int) : Bool := ishr .u32 (ior .u32 p m) n == 0 && iand .u32 p m == 0
theorem within_ok (a : Alpha) (p m : Int) : PureFn Tryz.prog 119 [a.av, .int .u32 p, .int .u32 m] (.bool (withinB a.feats.length p m)) := by
  refine pure_of_body' Tryz.func119 rfl Tryz.ntmps119 (by kernel_rfl) (by simp) fun H hH => ?_
  repeat (any_goals (first
    | refine awp_seq ?_ | refine awp_block ?_ | refine awp_skip ?_ | refine awp_ret ?_ | refine awp_exit ?_
    | (with_reducible first | refine thenQ_normal ?_ | refine thenQ_ret ?_ | refine thenQ_exit ?_ | refine blockQ_normal ?_ | refine blockQ_ret ?_ | refine blockQ_here ?_ | refine blockQ_other (by decide) ?_)
    | (refine awp_cond rfl (fun hc => ?_) (fun hc => ?_) <;> (try (exfalso; first | (simp_all; done) | (simp at hc; omega))))
    | (refine awp_region_k fun X hX => ?_; simp [Alpha.av])
    | (refine awp_drawn_k [] (by kernel_rfl) (by kernel_rfl) fun X hX => ?_; simp [Alpha.av])
    | (refine hX _ _ ?_; clear hX X)
    | (refine And.intro (by first | omega | assumption) ?_)))
  simp [Tryz.results119, withinB]
  all_goals rfl
def lower : List UInt8 := (List.range 26).map fun i => UInt8.ofNat (97 + i)
def namedB (s : List UInt8) : Bool := decide (s ≠ []) && decide (s.length ≤ 32) && decide (trimS lower s = [])
theorem named_ok (s : List UInt8) (hl : s.length < 9223372036854775807) : PureFn Tryz.prog 117 [.str s] (.bool (namedB s)) := by
  refine pure_of_body' Tryz.func117 rfl Tryz.ntmps117 (by kernel_rfl) (by simp) fun H hH => ?_
  have k := trim_ok lower s (by decide) (by decide) (by decide) hl
  repeat (any_goals (first
    | refine awp_seq ?_ | refine awp_block ?_ | refine awp_skip ?_ | refine awp_ret ?_ | refine awp_exit ?_
    | (with_reducible first | refine thenQ_normal ?_ | refine thenQ_ret ?_ | refine thenQ_exit ?_ | refine blockQ_normal ?_ | refine blockQ_ret ?_ | refine blockQ_here ?_ | refine blockQ_other (by decide) ?_)
    | (refine awp_cond rfl (fun hc => ?_) (fun hc => ?_) <;> (try (exfalso; first | (simp_all; done) | (simp at hc; omega))))
    | (refine awp_region_k fun X hX => ?_; simp)
    | (refine awp_drawn_k [] (by kernel_rfl) (by kernel_rfl) fun X hX => ?_; simp)
    | (refine gcallP rfl rfl (by simp) (by simp) rfl (k) ?_; simp)
    | (refine gcallG rfl rfl rfl (by simp) rfl (k) (by simp) ?_; simp)
    | (refine dgcallP rfl (fun _ => rfl) rfl rfl (by simp) (by simp) rfl (k) ?_; simp)
    | (refine dgcallG rfl (fun _ => rfl) rfl rfl rfl (by simp) rfl (k) (by simp) ?_; simp)
    | (refine hX _ _ ?_; clear hX X)
    | (refine And.intro (by first | omega | assumption) ?_)))
  simp [Tryz.results117, namedB]
  congr 2
  simp [decide_eq_decide]
  try omega
def featsB : List (List UInt8) → List (List UInt8) → Bool
  | _, [] => true
  | seen, f :: fs => namedB f && !decide (f ∈ seen) && featsB (seen ++ [f]) fs
def lettersB (n : Nat) : List Int → List Letter → Bool
  | _, [] => true
  | seen, l :: ls => letteredB l.rune && !decide (l.rune ∈ seen) && withinB n l.plus l.minus && lettersB n (seen ++ [l.rune]) ls
def Alpha.okB (a : Alpha) : Bool := decide (a.feats.length ≤ 24) && decide (1 ≤ a.letters.length) && decide (a.letters.length ≤ 128) && featsB [] a.feats && lettersB a.feats.length [] a.letters
def Alpha.fin (a : Alpha) : Prop := ∀ f ∈ a.feats, f.length < 9223372036854775807
set_option maxHeartbeats 2000000 in
theorem check_ok (a : Alpha) (hf : a.fin) : PureFn Tryz.prog 52 [a.av] (.int .i64 (if a.okB then 0 else 7)) := by
  refine pure_of_body' Tryz.func52 rfl Tryz.ntmps52 (by kernel_rfl) (by simp) fun H hH => ?_
  repeat (any_goals (first
    | refine awp_seq ?_ | refine awp_block ?_ | refine awp_skip ?_ | refine awp_ret ?_ | refine awp_exit ?_
    | (with_reducible first | refine thenQ_normal ?_ | refine thenQ_ret ?_ | refine thenQ_exit ?_ | refine blockQ_normal ?_ | refine blockQ_ret ?_ | refine blockQ_here ?_ | refine blockQ_other (by decide) ?_)
    | (refine awp_cond rfl (fun hc => ?_) (fun hc => ?_) <;> (try (exfalso; first | (simp_all; done) | (simp at hc; omega))))
    | (refine awp_region_k fun X hX => ?_; simp [Alpha.av])
    | (refine awp_drawn_k [] (by kernel_rfl) (by kernel_rfl) fun X hX => ?_; simp [Alpha.av])
    | (refine hX _ _ ?_; clear hX X)
    | (refine And.intro (by first | omega | assumption) ?_)))
  · have : a.okB = false := by
      simp at hc
      simp [Alpha.okB]
      omega
    simp [Tryz.results52, this]
  have h24 : a.feats.length ≤ 24 ∧ 1 ≤ a.letters.length ∧ a.letters.length ≤ 128 := by simp at hc; omega
  refine awp_loop' (fun m e H' => ∃ j : Nat, j ≤ a.feats.length ∧ m = a.feats.length - j ∧ featsB (a.feats.take j) (a.feats.drop j) = featsB [] a.feats ∧
      e = [(29, .int .i64 j), (28, .int .i64 a.feats.length), (27, .lst (a.feats.map .str)), (3, .map (H.length + 1)), (1, .ptr H.length 0), (2, .int .i64 0)] ∧
      H' = H ++ [.cells 25 [.lst (a.feats.map .str), .lst (a.letters.map Letter.av)], .map .str (smap ((a.feats.take j).map Key.str))]) a.feats.length
      [(29, .int .i64 0), (28, .int .i64 a.feats.length), (27, .lst (a.feats.map .str)), (3, .map (H.length + 1)), (1, .ptr H.length 0), (2, .int .i64 0)] ⟨0, by omega, by omega, by simp, by simp, by simp [smap]⟩ (by simp) ?_
  rintro m e H1 ⟨j, hj, rfl, hfs, rfl, rfl⟩
  by_cases hlt : j < a.feats.length
  · have hg : (a.feats.map AV.str)[j]? = some (.str a.feats[j]) := by simp [List.getElem?_eq_getElem hlt]
    have kn := named_ok a.feats[j] (hf _ (List.getElem_mem hlt))
    have hw : IntKind.wrap .i64 ((j : Int) + 1) = j + 1 := wrap64 (by omega) (by omega)
    repeat (any_goals (first
      | refine awp_seq ?_ | refine awp_block ?_ | refine awp_skip ?_ | refine awp_ret ?_ | refine awp_exit ?_
      | (with_reducible first | refine thenQ_normal ?_ | refine thenQ_ret ?_ | refine thenQ_exit ?_ | refine blockQ_normal ?_ | refine blockQ_ret ?_ | refine blockQ_here ?_ | refine blockQ_other (by decide) ?_)
      | (refine awp_cond rfl (fun hc => ?_) (fun hc => ?_) <;> (try (exfalso; first | (simp_all; done) | (simp at hc; omega))))
      | (refine awp_region_k fun X hX => ?_; simp [hg, hw, smap_getD, smap_put])
      | (refine awp_drawn_k [] (by kernel_rfl) (by kernel_rfl) fun X hX => ?_; simp [hg, hw, smap_getD, smap_put])
      | (refine gcallP rfl rfl (by simp) (by simp) rfl (kn) ?_; simp [hg, hw, smap_getD, smap_put])
      | (refine gcallG rfl rfl rfl (by simp) rfl (kn) (by simp) ?_; simp [hg, hw, smap_getD, smap_put])
      | (refine dgcallP rfl (fun _ => rfl) rfl rfl (by simp) (by simp) rfl (kn) ?_; simp [hg, hw, smap_getD, smap_put])
      | (refine dgcallG rfl (fun _ => rfl) rfl rfl rfl (by simp) rfl (kn) (by simp) ?_; simp [hg, hw, smap_getD, smap_put])
      | (refine hX _ _ ?_; clear hX X)
      | (refine And.intro (by first | omega | assumption) ?_)))
    · have : a.okB = false := by
        rw [List.drop_eq_getElem_cons hlt, featsB] at hfs
        have : featsB [] a.feats = false := by
          rw [← hfs]
          simp only [Bool.or_eq_true, Bool.not_eq_true', decide_eq_true_eq, ← List.map_take, List.mem_map, Key.str.injEq, exists_eq_right] at hc
          rcases hc with hc | hc <;> simp [hc]
        simp [Alpha.okB, this]
      simp [Tryz.results52, this]
    · simp only [Bool.or_eq_false_iff, Bool.not_eq_false', decide_eq_false_iff_not, ← List.map_take, List.mem_map, Key.str.injEq, exists_eq_right] at hc
      have hset : List.take j (List.map Key.str a.feats) ++ [Key.str a.feats[j]] = (a.feats.take (j + 1)).map Key.str := by
        rw [← List.take_append_getElem hlt, List.map_append, List.map_take]; rfl
      refine ⟨a.feats.length - (j + 1), [(29, .int .i64 (j + 1)), (28, .int .i64 a.feats.length), (27, .lst (a.feats.map .str)), (3, .map (H.length + 1)), (1, .ptr H.length 0), (2, .int .i64 0)],
        H ++ [.cells 25 [.lst (a.feats.map .str), .lst (a.letters.map Letter.av)], .map .str (smap ((a.feats.take (j + 1)).map Key.str))], [], ⟨j + 1, by omega, rfl, ?_, by simp, rfl⟩, by omega, by rw [hset]; simp, by simp, by simp, by simp, ?_⟩
      · rw [← hfs, List.drop_eq_getElem_cons hlt, featsB, hc.1, ← List.take_append_getElem hlt]
        simp [hc.2]
      · refine heap_under hH fun o ho => ?_
        simp only [List.mem_cons, List.not_mem_nil, or_false] at ho
        rcases ho with rfl | rfl
        · simp [AObj.under, unders_iff, Letter.av]
        · exact smap_under _ _
  · have hj : j = a.feats.length := by omega
    subst hj
    simp only [List.take_length, List.drop_length, featsB] at hfs
    repeat (any_goals (first
      | refine awp_seq ?_ | refine awp_block ?_ | refine awp_skip ?_ | refine awp_ret ?_ | refine awp_exit ?_
      | (with_reducible first | refine thenQ_normal ?_ | refine thenQ_ret ?_ | refine thenQ_exit ?_ | refine blockQ_normal ?_ | refine blockQ_ret ?_ | refine blockQ_here ?_ | refine blockQ_other (by decide) ?_)
      | (refine awp_cond rfl (fun hc => ?_) (fun hc => ?_) <;> (try (exfalso; first | (simp_all; done) | (simp at hc; omega))))
      | (refine awp_region_k fun X hX => ?_; simp)
      | (refine awp_drawn_k [] (by kernel_rfl) (by kernel_rfl) fun X hX => ?_; simp)
      | (refine hX _ _ ?_; clear hX X)
      | (refine And.intro (by first | omega | assumption) ?_)))
    refine awp_loop' (fun m e H' => ∃ j : Nat, j ≤ a.letters.length ∧ m = a.letters.length - j ∧ lettersB a.feats.length ((a.letters.take j).map Letter.rune) (a.letters.drop j) = lettersB a.feats.length [] a.letters ∧
        e = [(48, .int .i64 j), (47, .int .i64 a.letters.length), (46, .lst (a.letters.map Letter.av)), (6, .map (H.length + 2)), (1, .ptr H.length 0), (2, .int .i64 0)] ∧
        H' = H ++ [.cells 25 [.lst (a.feats.map .str), .lst (a.letters.map Letter.av)], .map .str (smap (a.feats.map Key.str)), .map (.int .i32) (smap ((a.letters.take j).map fun l => Key.int l.rune))]) a.letters.length
        [(48, .int .i64 0), (47, .int .i64 a.letters.length), (46, .lst (a.letters.map Letter.av)), (6, .map (H.length + 2)), (1, .ptr H.length 0), (2, .int .i64 0)] ⟨0, by omega, by omega, by simp, by simp, by simp [smap]⟩ (by simp) ?_
    rintro m e H1 ⟨j, hj, rfl, hls, rfl, rfl⟩
    by_cases hlt : j < a.letters.length
    · have hg : (a.letters.map Letter.av)[j]? = some (Letter.av a.letters[j]) := by simp [List.getElem?_eq_getElem hlt]
      generalize hl : a.letters[j] = l at hg
      simp only [Letter.av] at hg
      have hex : (∃ x, x ∈ a.letters.take j ∧ x.rune = l.rune) = (l.rune ∈ (a.letters.take j).map Letter.rune) := by simp only [List.mem_map]
      have k1 := lettered_ok l.rune
      have k2 := within_ok a l.plus l.minus
      simp only [Alpha.av] at k2
      have hw : IntKind.wrap .i64 ((j : Int) + 1) = j + 1 := wrap64 (by omega) (by omega)
      repeat (any_goals (first
        | refine awp_seq ?_ | refine awp_block ?_ | refine awp_skip ?_ | refine awp_ret ?_ | refine awp_exit ?_
        | (with_reducible first | refine thenQ_normal ?_ | refine thenQ_ret ?_ | refine thenQ_exit ?_ | refine blockQ_normal ?_ | refine blockQ_ret ?_ | refine blockQ_here ?_ | refine blockQ_other (by decide) ?_)
        | (refine awp_cond rfl (fun hc => ?_) (fun hc => ?_) <;> (try (exfalso; first | (simp_all; done) | (simp at hc; omega))))
        | (refine awp_region_k fun X hX => ?_; simp [hg, hw, smap_getD, smap_put, Letter.av])
        | (refine awp_drawn_k [] (by kernel_rfl) (by kernel_rfl) fun X hX => ?_; simp [hg, hw, smap_getD, smap_put, Letter.av])
        | (refine gcallP rfl rfl (by simp) (by simp) rfl (k1) ?_; simp [hg, hw, smap_getD, smap_put, Letter.av])
        | (refine gcallG rfl rfl rfl (by simp) rfl (k1) (by simp) ?_; simp [hg, hw, smap_getD, smap_put, Letter.av])
        | (refine dgcallP rfl (fun _ => rfl) rfl rfl (by simp) (by simp) rfl (k1) ?_; simp [hg, hw, smap_getD, smap_put, Letter.av])
        | (refine dgcallG rfl (fun _ => rfl) rfl rfl rfl (by simp) rfl (k1) (by simp) ?_; simp [hg, hw, smap_getD, smap_put, Letter.av])
        | (refine gcallP rfl rfl (by simp) (by simp) rfl (k2) ?_; simp [hg, hw, smap_getD, smap_put, Letter.av])
        | (refine gcallG rfl rfl rfl (by simp) rfl (k2) (by simp) ?_; simp [hg, hw, smap_getD, smap_put, Letter.av])
        | (refine dgcallP rfl (fun _ => rfl) rfl rfl (by simp) (by simp) rfl (k2) ?_; simp [hg, hw, smap_getD, smap_put, Letter.av])
        | (refine dgcallG rfl (fun _ => rfl) rfl rfl rfl (by simp) rfl (k2) (by simp) ?_; simp [hg, hw, smap_getD, smap_put, Letter.av])
        | (refine hX _ _ ?_; clear hX X)
        | (refine And.intro (by first | omega | assumption) ?_)))
      · have : a.okB = false := by
          rw [List.drop_eq_getElem_cons hlt, hl, lettersB] at hls
          have : lettersB a.feats.length [] a.letters = false := by
            rw [← hls]
            simp only [Bool.or_eq_true, Bool.not_eq_true', decide_eq_true_eq, ← List.map_take, List.mem_map, Key.int.injEq] at hc
            simp only [hex] at hc
            rcases hc with (hc | hc) | hc <;> simp only [hc, decide_true, Bool.not_true, Bool.and_false, Bool.false_and]
          simp [Alpha.okB, this]
        simp [Tryz.results52, this]
      · simp only [Bool.or_eq_false_iff, Bool.not_eq_false', decide_eq_false_iff_not, ← List.map_take, List.mem_map, Key.int.injEq] at hc
        simp only [hex] at hc
        have hset : List.take j (List.map (fun l => Key.int l.rune) a.letters) ++ [Key.int l.rune] = (a.letters.take (j + 1)).map fun l => Key.int l.rune := by
          rw [← List.take_append_getElem hlt, List.map_append, List.map_take, hl]; rfl
        refine ⟨a.letters.length - (j + 1), [(48, .int .i64 (j + 1)), (47, .int .i64 a.letters.length), (46, .lst (a.letters.map Letter.av)), (6, .map (H.length + 2)), (1, .ptr H.length 0), (2, .int .i64 0)],
          H ++ [.cells 25 [.lst (a.feats.map .str), .lst (a.letters.map Letter.av)], .map .str (smap (a.feats.map Key.str)), .map (.int .i32) (smap ((a.letters.take (j + 1)).map fun l => Key.int l.rune))],
          [.cells 131 [.int .i32 l.rune, .int .u32 l.plus, .int .u32 l.minus]], ⟨j + 1, by omega, rfl, ?_, by simp, rfl⟩, by omega, by rw [hset]; simp, by simp, by simp, by simp [Letter.av], ?_⟩
        · rw [← hls, List.drop_eq_getElem_cons hlt, hl, lettersB, ← List.take_append_getElem hlt, hl, hc.1.1, hc.2, decide_eq_false hc.1.2, List.map_append]
          simp only [Bool.not_false, Bool.true_and, Bool.and_true]
          rfl
        · refine heap_under hH fun o ho => ?_
          simp only [List.mem_cons, List.not_mem_nil, or_false] at ho
          rcases ho with rfl | rfl | rfl
          · simp [AObj.under, unders_iff, Letter.av]
          · exact smap_under _ _
          · exact smap_under _ _
    · have hj : j = a.letters.length := by omega
      subst hj
      simp only [List.take_length, List.drop_length, lettersB] at hls
      repeat (any_goals (first
        | refine awp_seq ?_ | refine awp_block ?_ | refine awp_skip ?_ | refine awp_ret ?_ | refine awp_exit ?_
        | (with_reducible first | refine thenQ_normal ?_ | refine thenQ_ret ?_ | refine thenQ_exit ?_ | refine blockQ_normal ?_ | refine blockQ_ret ?_ | refine blockQ_here ?_ | refine blockQ_other (by decide) ?_)
        | (refine awp_cond rfl (fun hc => ?_) (fun hc => ?_) <;> (try (exfalso; first | (simp_all; done) | (simp at hc; omega))))
        | (refine awp_region_k fun X hX => ?_; simp)
        | (refine awp_drawn_k [] (by kernel_rfl) (by kernel_rfl) fun X hX => ?_; simp)
        | (refine hX _ _ ?_; clear hX X)
        | (refine And.intro (by first | omega | assumption) ?_)))
      have : a.okB = true := by simp [Alpha.okB, ← hls, ← hfs]; omega
      simp [Tryz.results52, this]
end Go.Proofs
end
