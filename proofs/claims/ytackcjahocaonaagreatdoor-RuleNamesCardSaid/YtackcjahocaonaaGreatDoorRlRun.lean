/- A part of a proof: rules for reading Go code as code over plain values, and what follows for this program. Its conditions stand in each statement. -/
import Derived.Test.YtackcjahocaonaaGreatDoorRlFn
import Derived.Test.YtackcjahocaonaaGreatDoorF1
section
set_option linter.unusedVariables false
/-! The evaluator at this program. -/
namespace Go.Proofs
open Go.Ab
def inK (cs : List UInt8) (b : UInt8) : Bool := match cs with
  | [] => false
  | c :: r => match Nat.beq c.toNat b.toNat with | true => true | false => inK r b
def dropK (cs : List UInt8) : List UInt8 → List UInt8
  | [] => []
  | b :: r => match inK cs b with | true => dropK cs r | false => b :: r
def trimK (cs s : List UInt8) : List UInt8 := dropK cs (dropK cs s.reverse).reverse
theorem inK_eq (cs : List UInt8) (b : UInt8) : inK cs b = inSet cs b := by
  induction cs with
  | nil => rfl
  | cons c r ih =>
    simp only [inK, inSet, List.contains_cons]
    split
    · rename_i h
      rw [Nat.beq_eq] at h
      rw [UInt8.toNat_inj.1 h]
      simp
    · rename_i h
      have : (b == c) = false := by
        rw [beq_eq_false_iff_ne]
        rintro rfl
        simp at h
      rw [this, Bool.false_or, ih]
      rfl
theorem dropK_eq (cs s : List UInt8) : dropK cs s = s.dropWhile (inSet cs) := by
  induction s with
  | nil => rfl
  | cons b r ih =>
    simp only [dropK, List.dropWhile_cons, inK_eq]
    split
    · rename_i h; rw [if_pos h, ih]
    · rename_i h; rw [if_neg (by rw [h]; simp)]
theorem trimK_eq (cs s : List UInt8) : trimK cs s = trimS cs s := by simp only [trimK, trimS, trimRightS, dropK_eq]
def asciiK : List UInt8 → Bool
  | [] => true
  | b :: r => match Nat.blt b.toNat 128 with | true => asciiK r | false => false
theorem asciiK_spec {cs : List UInt8} (h : asciiK cs = true) : ∀ b ∈ cs, b.toNat < 128 := by
  induction cs with
  | nil => intro b hb; cases hb
  | cons c r ih =>
    simp only [asciiK] at h
    split at h
    · rename_i hc
      rw [blt_lt] at hc
      intro b hb
      rcases List.mem_cons.1 hb with rfl | hb
      · exact hc
      · exact ih h b hb
    · cases h
def alpha : Alpha where
  feats := [[118,111,105,99,101,100], [110,97,115,97,108], [118,111,119,101,108]]
  letters := [⟨112, 0, 7⟩, ⟨98, 1, 6⟩, ⟨109, 3, 4⟩, ⟨97, 5, 2⟩, ⟨104, 0, 0⟩, ⟨105, 5, 2⟩]
def letters : AV := .agg [.lst [.str [118,111,105,99,101,100], .str [110,97,115,97,108], .str [118,111,119,101,108]], .lst [.agg [.int .i32 112, .int .u32 0, .int .u32 7], .agg [.int .i32 98, .int .u32 1, .int .u32 6],.agg [.int .i32 109, .int .u32 3, .int .u32 4],.agg [.int .i32 97, .int .u32 5, .int .u32 2],.agg [.int .i32 104, .int .u32 0, .int .u32 0],.agg [.int .i32 105, .int .u32 5, .int .u32 2]]]
theorem check_letters : PureFn Tryz.prog 52 [letters] (.int .i64 0) := by
  have h := check_ok alpha (by intro f hf; simp [alpha] at hf; rcases hf with rfl | rfl | rfl <;> decide)
  rw [show alpha.okB = true by decide] at h
  exact h
noncomputable def pureRl (f : FuncId) (args : List AV) : Option AV :=
  bif Nat.beq f 121 then (match args with
    | [.str s, .str cs] => (match asciiK cs && Nat.ble 2 (lenK cs) && Nat.ble (lenK cs) 1000000 && Nat.ble (lenK s) 1000000 with | true => some (.str (trimK cs s)) | false => none)
    | _ => none)
  else bif Nat.beq f 52 then (match args with | [a] => (match AV.beqF 12 a letters with | true => some (.int .i64 0) | false => none) | _ => none)
  else none
theorem pureRl_ok (f : FuncId) (args : List AV) (r : AV) (h : pureRl f args = some r) : PureFn Tryz.prog f args r := by
  simp only [pureRl, Bool.cond_eq_ite] at h
  split at h
  · rename_i hf
    rw [Nat.beq_eq] at hf
    subst hf
    split at h
    · rename_i s cs
      split at h
      · rename_i hc
        simp only [Bool.and_eq_true, ble_le, lenK_eq] at hc
        cases h
        rw [trimK_eq]
        exact trim_ok cs s (asciiK_spec hc.1.1.1) hc.1.1.2 (by omega) (by omega)
      · cases h
    · cases h
  · split at h
    · rename_i hf
      rw [Nat.beq_eq] at hf
      subst hf
      split at h
      · split at h
        · rename_i hc
          cases h
          rw [AV.beqF_eq _ _ _ hc]
          exact check_letters
        · cases h
      · cases h
    · cases h
/-- An end of a call: what objects stand then (none: those that stood before). -/
abbrev KEnd := AEnd × Option (List AObj)
/-- Tables with some calls' ends, told where these objects stand, and no others. -/
abbrev Known := List (FuncId × List AV × List AObj × List KEnd)
noncomputable def sameObjs (h : BT AObj) : List AObj → Nat → Bool
  | [], _ => true
  | o :: r, i => match AObj.beqF 12 (obj h i) o with | true => sameObjs h r (Nat.succ i) | false => false
theorem sameObjs_eq {h : BT AObj} : ∀ (l : List AObj) (i : Nat), sameObjs h l i = true → ∀ j, j < l.length → some (obj h (i + j)) = l[j]?
  | [], _, _, j, hj => by cases hj
  | o :: r, i, k, j, hj => by
    simp only [sameObjs] at k
    split at k
    · rename_i h1
      cases j with
      | zero => rw [Nat.add_zero, AObj.beqF_eq h1]; rfl
      | succ j =>
        have := sameObjs_eq r (i + 1) k j (by simpa using hj)
        rw [show i + (j + 1) = i + 1 + j by omega, this]
        rfl
    · cases k
theorem heapOf_same {h : BT AObj} {l : List AObj} {n : Nat} (hn : n = l.length) (k : sameObjs h l 0 = true) : heapOf h n = l := by
  refine List.ext_getElem? fun j => ?_
  by_cases hj : j < n
  · rw [heapOf_get _ _ _ hj]
    have := sameObjs_eq l 0 k j (by omega)
    rw [Nat.zero_add] at this
    exact this
  · rw [List.getElem?_eq_none (by simp; omega), List.getElem?_eq_none (by omega)]
noncomputable def treeOf : List AObj → Nat → BT AObj → BT AObj
  | [], _, t => t
  | o :: r, i, t => BT.putK .dead o 24 t i fun t' => treeOf r (Nat.succ i) t'
theorem treeOf_get : ∀ (l : List AObj) (i : Nat) (t : BT AObj) (s : Nat), obj (treeOf l i t) s = if i ≤ s ∧ s < i + l.length then (l[s - i]?).getD .dead else obj t s := by
  intro l
  induction l with
  | nil => intro i t s; rw [if_neg (by simp)]; rfl
  | cons x l hi =>
    intro i t s
    simp only [treeOf]
    rw [putK_eq, hi (i + 1) _ s]
    have hs : obj (BT.slow .dead x t i) s = if s = i then x else obj t s := slow_get _ _ _ _ _
    rw [hs]
    simp only [List.length_cons]
    by_cases he : s = i
    · subst he
      rw [if_neg (by omega), if_pos rfl, if_pos (by omega), Nat.sub_self]
      rfl
    · rw [if_neg he]
      by_cases hr : i + 1 ≤ s ∧ s < i + 1 + l.length
      · rw [if_pos hr, if_pos (by omega), show s - i = (s - (i + 1)) + 1 by omega, List.getElem?_cons_succ]
      · rw [if_neg hr, if_neg (by omega)]
theorem heapOf_tree (l : List AObj) : heapOf (treeOf l 0 .nil) (lenK l) = l := by
  rw [lenK_eq]
  refine List.ext_getElem? fun j => ?_
  by_cases hj : j < l.length
  · rw [heapOf_get _ _ _ hj, treeOf_get, if_pos (by omega), Nat.sub_zero, List.getElem?_eq_getElem hj]
    rfl
  · rw [List.getElem?_eq_none (by simp; omega), List.getElem?_eq_none (by omega)]
noncomputable def kEnds (h : BT AObj) (n : Nat) (l : List KEnd) : List (AEnd × BT AObj × Nat) :=
  List.rec (motive := fun _ => List (AEnd × BT AObj × Nat)) [] (fun y _ ih => (match y.2 with | none => (y.1, h, n) | some l => (y.1, treeOf l 0 .nil, lenK l)) :: ih) l
noncomputable def orcOf (tbl : Known) (f : FuncId) (args : List AV) (h : BT AObj) (n : Nat) : Option (List (AEnd × BT AObj × Nat)) :=
  List.rec (motive := fun _ => Option (List (AEnd × BT AObj × Nat))) none (fun x _ ih => match Nat.beq x.1 f && Nat.beq n (lenK x.2.2.1) && beqL (AV.beqF 12) x.2.1 args && sameObjs h x.2.2.1 0 with | true => some (kEnds h n x.2.2.2) | false => ih) tbl
noncomputable def rlPrg (tbl : Known) : Prg := { T := Tryz.tab, fn := Tryz.fnT, pure := pureRl, orc := orcOf tbl }
def kHeaps (H : List AObj) (l : List KEnd) : List (AEnd × Heap) := l.map fun y => (y.1, y.2.getD H)
def KnownOk (tbl : Known) : Prop := ∀ x ∈ tbl, NCall Tryz.prog x.1 x.2.1 x.2.2.1 (kHeaps x.2.2.1 x.2.2.2)
theorem kEnds_eq {h : BT AObj} {n : Nat} (l : List KEnd) : (kEnds h n l).map (fun x => (x.1, heapOf x.2.1 x.2.2)) = kHeaps (heapOf h n) l := by
  induction l with
  | nil => rfl
  | cons y l ih =>
    obtain ⟨a, b⟩ := y
    cases b with
    | none => exact congrArg (_ :: ·) ih
    | some b =>
      have h1 := heapOf_tree b
      change (a, heapOf (treeOf b 0 .nil) (lenK b)) :: _ = (a, b) :: _
      rw [h1]
      exact congrArg (_ :: ·) ih
theorem rlPrg_ok {tbl : Known} (h : KnownOk tbl) : PrgOk Tryz.prog (rlPrg tbl) where
  T := Tryz.tab_ok
  fn f c hc := (Tryz.fnT_ok f).use c hc
  pure := pureRl_ok
  orc f args g n x k := by
    unfold rlPrg orcOf at k
    simp only at k
    induction tbl with
    | nil => cases k
    | cons y r ih =>
      simp only at k
      split at k
      · rename_i hb
        simp only [Bool.and_eq_true, Nat.beq_eq, lenK_eq] at hb
        obtain ⟨⟨⟨b1, b2⟩, b3⟩, b4⟩ := hb
        cases k
        have := h y List.mem_cons_self
        rw [b1, beqL_eq _ _ (fun x _ y e => AV.beqF_eq _ _ _ e) b3] at this
        rw [kEnds_eq, heapOf_same b2 b4]
        exact this
      · exact ih (fun z hz => h z (List.mem_cons_of_mem _ hz)) k
  mixed := by kernel_rfl
/-! ### What a call comes to -/
noncomputable def likeObjs (h : BT AObj) : List AObj → Nat → Bool
  | [], _ => true
  | o :: r, i => match o with
    | .dead => likeObjs h r (Nat.succ i)
    | o => match AObj.beqF 12 (obj h i) o with | true => likeObjs h r (Nat.succ i) | false => false
theorem likeObjs_eq {h : BT AObj} : ∀ (l : List AObj) (i : Nat), likeObjs h l i = true → ∀ j o, l[j]? = some o → o = .dead ∨ obj h (i + j) = o
  | [], _, _, j, o, hj => by cases hj
  | p :: r, i, k, j, o, hj => by
    have main : (p = .dead ∨ obj h i = p) ∧ likeObjs h r (i + 1) = true := by
      unfold likeObjs at k
      split at k
      · exact ⟨.inl rfl, k⟩
      · split at k
        · rename_i h1; exact ⟨.inr (AObj.beqF_eq h1), k⟩
        · cases k
    cases j with
    | zero =>
      simp only [List.getElem?_cons_zero, Option.some.injEq] at hj
      subst hj
      exact main.1
    | succ j =>
      have := likeObjs_eq r (i + 1) main.2 j o (by simpa using hj)
      rw [show i + (j + 1) = i + 1 + j by omega]
      exact this
def likeH (H' H : Heap) : Prop := H'.length = H.length ∧ ∀ (j : Nat) (o : AObj), H'[j]? = some o → o = .dead ∨ H[j]? = some o
theorem rel_like {G : Ghost} {H H' : Heap} {w : World} (h : Rel G H w) (k : likeH H' H) : Rel G H' w where
  snap := h.snap
  obj id o ho := by
    rcases k.2 id o ho with rfl | h1
    · trivial
    · rw [k.1]; exact h.obj id o h1
  own id o ho hw := by
    rcases k.2 id o ho with rfl | h1
    · cases hw
    · exact h.own id o h1 hw
  apart i j oi oj hne hi hj wi wj := by
    rcases k.2 i oi hi with rfl | h1
    · cases wi
    rcases k.2 j oj hj with rfl | h2
    · cases wj
    exact h.apart i j oi oj hne h1 h2 wi wj
theorem ncall_like {P : Program} {f : FuncId} {args : List AV} {H : Heap} {l m : List (AEnd × Heap)} (h : NCall P f args H l) (k : ∀ y ∈ l, ∃ z ∈ m, z.1 = y.1 ∧ likeH z.2 y.2) : NCall P f args H m :=
  ⟨h.1, fun G w cargs hR hs hv => (h.2 G w cargs hR hs hv).mono fun en w' ⟨y, hy, G', e1, e2, e3⟩ => by
    obtain ⟨z, hz, z1, z2⟩ := k y hy
    refine ⟨z, hz, G', ?_, rel_like e2 z2, ?_⟩
    · rw [z1, z2.1]; exact e1
    · rw [z2.1]; exact e3⟩
noncomputable def likeEnd (objs : List AObj) (y : AEnd × St) (z : KEnd) : Bool := match AEnd.beqE y.1 z.1 with
  | false => false
  | true => match z.2 with
    | none => Nat.beq y.2.n (lenK objs) && likeObjs y.2.h objs 0
    | some l => Nat.beq y.2.n (lenK l) && likeObjs y.2.h l 0
noncomputable def likeEnds (objs : List AObj) : Go.Ab.Ends → List KEnd → Bool
  | [], [] => true
  | y :: r, z :: s => match likeEnd objs y z with | true => likeEnds objs r s | false => false
  | _, _ => false
theorem likeEnd_eq {objs : List AObj} {y : AEnd × St} {z : KEnd} (h : likeEnd objs y z = true) : z.1 = y.1 ∧ likeH (z.2.getD objs) (heapOf y.2.h y.2.n) := by
  have aux : ∀ l : List AObj, (Nat.beq y.2.n (lenK l) && likeObjs y.2.h l 0) = true → likeH l (heapOf y.2.h y.2.n) := by
    intro l hl
    simp only [Bool.and_eq_true, Nat.beq_eq, lenK_eq] at hl
    refine ⟨by simp [hl.1], fun j o hj => ?_⟩
    rcases likeObjs_eq l 0 hl.2 j o hj with h1 | h1
    · exact .inl h1
    · have hlt : j < y.2.n := by rw [hl.1]; exact (List.getElem?_eq_some_iff.1 hj).1
      rw [Nat.zero_add] at h1
      rw [heapOf_get _ _ _ hlt, h1]
      exact .inr rfl
  unfold likeEnd at h
  split at h
  · cases h
  · rename_i h1
    refine ⟨(AEnd.beqE_eq h1).symm, ?_⟩
    split at h
    · rename_i h2; rw [h2]; exact aux _ h
    · rename_i l h2; rw [h2]; exact aux _ h
theorem likeEnds_eq {objs : List AObj} : ∀ (l : Go.Ab.Ends) (m : List KEnd), likeEnds objs l m = true → ∀ y ∈ endsH l, ∃ z ∈ kHeaps objs m, z.1 = y.1 ∧ likeH z.2 y.2
  | [], _, _, y, hy => by cases hy
  | a :: l, [], h, y, hy => by cases h
  | a :: l, b :: m, h, y, hy => by
    simp only [likeEnds] at h
    split at h
    · rename_i h1
      rcases List.mem_cons.1 hy with rfl | hy
      · exact ⟨_, List.mem_cons_self, (likeEnd_eq h1).1, (likeEnd_eq h1).2⟩
      · obtain ⟨z, hz, k⟩ := likeEnds_eq l m h y hy
        exact ⟨z, List.mem_cons_of_mem _ hz, k⟩
    · cases h
noncomputable def evEnds (tbl : Known) (f : FuncId) (args : List AV) (objs : List AObj) (want : List KEnd) : Bool :=
  match evFn (rlPrg tbl) (ev (rlPrg tbl) 100000) f args ⟨.nil, treeOf objs 0 .nil, lenK objs⟩ with
  | some l => likeEnds objs l want
  | none => false
theorem evEnds_ok {tbl : Known} {f : FuncId} {args : List AV} {objs : List AObj} {want : List KEnd} (ht : KnownOk tbl) (h : evEnds tbl f args objs want = true) : NCall Tryz.prog f args objs (kHeaps objs want) := by
  unfold evEnds at h
  split at h
  · rename_i l hl
    have := ev_call (rlPrg_ok ht) hl
    rw [heapOf_tree] at this
    exact ncall_like this (likeEnds_eq l want h)
  · cases h
noncomputable def evTo (tbl : Known) (f : FuncId) (args : List AV) (want : AV) : Bool := evEnds tbl f args [] [(.ret want, none)]
theorem evTo_ok {tbl : Known} {f : FuncId} {args : List AV} {want : AV} (ht : KnownOk tbl) (h : evTo tbl f args want = true) : DCall Tryz.prog f args [] (.ret want) [] := NCall.toD (evEnds_ok ht h)
theorem known_nil : KnownOk [] := fun x hx => by cases hx
theorem known_cons {f : FuncId} {args : List AV} {objs : List AObj} {want : List KEnd} {tbl : Known} (h : evEnds [] f args objs want = true) (k : KnownOk tbl) : KnownOk ((f, args, objs, want) :: tbl) := fun x hx => by
  rcases List.mem_cons.1 hx with rfl | hx
  · exact evEnds_ok known_nil h
  · exact k x hx
theorem known_consT {f : FuncId} {args : List AV} {objs : List AObj} {want : List KEnd} {t tbl : Known} (ht : KnownOk t) (h : evEnds t f args objs want = true) (k : KnownOk tbl) : KnownOk ((f, args, objs, want) :: tbl) := fun x hx => by
  rcases List.mem_cons.1 hx with rfl | hx
  · exact evEnds_ok ht h
  · exact k x hx
end Go.Proofs
end
