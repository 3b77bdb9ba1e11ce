/- A part of a proof: rules for reading Go code as code over plain values, and what follows for this program. Its conditions stand in each statement. -/
import Derived.Tactics
import Derived.Below
import Derived.OwnWalk
import Derived.Laws.Append
import Derived.KernelRfl
section
namespace Go.Ab
/-- A text's bytes as Go's model keeps them. -/
def ba (s : List UInt8) : ByteArray := ⟨s.toArray⟩
theorem ba_size (s : List UInt8) : (ba s).size = s.length := by simp [ba, ByteArray.size]
theorem ba_append (s t : List UInt8) : ba s ++ ba t = ba (s ++ t) := by
  apply ByteArray.ext
  simp [ba]
theorem ba_inj {s t : List UInt8} : ba s = ba t ↔ s = t := by simp [ba]
theorem ba_extract (s : List UInt8) (l h : Nat) : (ba s).extract l h = ba ((s.drop l).take (h - l)) := by
  apply ByteArray.ext
  simp [ba, ByteArray.data_extract]
theorem ba_toList (s : List UInt8) : (ba s).toList = s := by
  have : ∀ (n i : Nat) (r : List UInt8), s.length - i = n → ByteArray.toList.loop (ba s) i r = r.reverse ++ s.drop i := by
    intro n
    induction n with
    | zero =>
      intro i r h
      rw [ByteArray.toList.loop, if_neg (by rw [ba_size]; omega), List.drop_eq_nil_of_le (by omega), List.append_nil]
    | succ n ih =>
      intro i r h
      rw [ByteArray.toList.loop, if_pos (by rw [ba_size]; omega), ih (i + 1) _ (by omega)]
      have hi : i < s.length := by omega
      have : (ba s).get! i = s[i] := by
        simp only [ByteArray.get!, ba]
        simp [hi]
      rw [this, List.reverse_cons, List.append_assoc, List.singleton_append, ← List.drop_eq_getElem_cons hi]
  rw [ByteArray.toList, this _ 0 [] rfl]
  rfl
theorem ba_get? (s : List UInt8) (i : Nat) : (ba s)[i]? = s[i]? := by
  by_cases h : i < s.length
  · have h' : i < (ba s).size := by rw [ba_size]; exact h
    rw [getElem?_pos (ba s) i h', getElem?_pos s i h]
    rfl
  · have h' : ¬ i < (ba s).size := by rw [ba_size]; exact h
    rw [getElem?_neg (ba s) i h', getElem?_neg s i h]
theorem ba_beq (s t : List UInt8) : (ba s == ba t) = decide (s = t) := by
  have e : (ba s == ba t) = ((ba s).data == (ba t).data) := rfl
  rw [e, Bool.eq_iff_iff]
  simp [ba]
end Go.Ab
end
section
/-
  Ab: VALUES WITHOUT ADDRESSES, OVER THE MODEL'S WORLDS. Plain definitions and theorems.
-/
namespace Go.Ab

/-- A value as a proof sees it. 'lst': a slice whose cells nobody writes any more: it is its elements. 'view', 'vptr': of a row of one's own; 'ptr': of a variable of one's own. -/
inductive AV where
  | junk
  | bool (b : Bool)
  | int (k : IntKind) (n : Int)
  | str (s : List UInt8)
  | nilS
  | zS
  | lst (xs : List AV)
  | view (id gen off len : Nat)
  | nilP
  | ptr (id off : Nat)
  | eptr (xs : List AV) (i off : Nat)
  | vptr (id gen i off : Nat)
  | nilM
  | map (id : Nat)
  | iter (id : Nat)
  | nilF
  | func (fn : Fn) (first cap : List AV)
  | nilI
  | iface (t : TypeId) (v : AV)
  | agg (cs : List AV)
  | tup (vs : List AV)
  deriving Inhabited

/-- The cells of a value. -/
def AV.cells : AV → List AV
  | .agg cs => cs
  | x => [x]
/-- How many. -/
def AV.nc : AV → Nat
  | .agg cs => cs.length
  | _ => 1
theorem AV.nc_eq (x : AV) : x.nc = x.cells.length := by cases x <;> rfl
/-- A value of one cell. -/
def AV.one : AV → Bool
  | .agg _ | .tup _ | .junk => false
  | _ => true

/-- A map's key: a number, a text, a bool, numbers side by side. -/
inductive Key where
  | int (n : Int)
  | str (s : List UInt8)
  | bool (b : Bool)
  | nums (l : List Int)
  deriving DecidableEq, Inhabited
inductive KT where
  | int (k : IntKind)
  | str
  | bool
  | nums (ks : List IntKind)
  deriving DecidableEq, Inhabited
def Key.val : KT → Key → Value
  | .int q, .int n => .int q n
  | .str, .str s => .string (ba s)
  | .bool, .bool b => .bool b
  | .nums qs, .nums l => .agg ((qs.zip l).map fun x => .int x.1 x.2).toArray
  | _, _ => .tuple #[]
def Key.fits : KT → Key → Bool
  | .int _, .int _ | .str, .str _ | .bool, .bool _ => true
  | .nums qs, .nums l => qs.length == l.length
  | _, _ => false
/-- A key as a value that a proof sees. -/
def Key.av : KT → Key → AV
  | .int q, .int n => .int q n
  | .str, .str s => .str s
  | .bool, .bool b => .bool b
  | .nums qs, .nums l => .agg ((qs.zip l).map fun x => .int x.1 x.2)
  | _, _ => .junk
/-- What a value is as a key. -/
def AV.key : KT → AV → Option Key
  | .int q, .int k n => if k = q then some (.int n) else none
  | .str, .str s => some (.str s)
  | .bool, .bool b => some (.bool b)
  | .nums qs, .agg cs => (keyNums qs cs).map .nums
  | _, _ => none
where keyNums : List IntKind → List AV → Option (List Int)
  | [], [] => some []
  | q :: qs, .int k n :: cs => if k = q then (keyNums qs cs).map (n :: ·) else none
  | _, _ => none

inductive AObj where
  | dead
  | cells (ty : TypeId) (cs : List AV)
  | row (ty : TypeId) (gen size : Nat) (xs : List AV)
  | map (kt : KT) (es : List (Key × AV))
  | iter (m : Nat) (keys left : List Key) (last : Option Key)
  | siter (s : List UInt8) (pos : Nat)
  deriving Inhabited

abbrev Heap := List AObj

/-- Where an object lies. -/
structure Loc where
  block : Nat
  base : Nat
  gen : Nat
  size : Nat
  room : Nat
  isNil : Bool
  fixed : Bool

structure Ghost where
  snap : Nat → Option Obj
  loc : Nat → Loc
  born : Nat → Key → Option Nat

mutual
def V (n : Nat) (G : Ghost) : AV → Value → Prop
  | .junk, _ => True
  | .bool b, v => v = .bool b
  | .int k i, v => v = .int k i
  | .str s, v => v = .string (ba s)
  | .nilS, v => v = .slice none 0 0
  | .zS, v => ∃ a, v = .slice (some a) 0 0
  | .lst xs, v => (xs = [] ∧ v = .slice none 0 0) ∨ ∃ b o cap c t fr size, v = .slice (some ⟨b, o, none⟩) xs.length cap ∧ xs.length ≤ cap ∧ G.snap b = some (.cells c t fr) ∧ Vrow n G size xs c o
  | .view id gen off len, v => id < n ∧ gen ≤ (G.loc id).gen ∧ ∃ a cap, v = .slice a len cap ∧ len ≤ cap ∧
      (gen = (G.loc id).gen → ((G.loc id).isNil = true ∧ a = none ∧ len = 0 ∧ cap = 0) ∨
        ((G.loc id).isNil = false ∧ a = some ⟨(G.loc id).block, (G.loc id).base + off * (G.loc id).size, none⟩ ∧ (G.loc id).base + (off + cap) * (G.loc id).size ≤ (G.loc id).room))
  | .nilP, v => v = .pointer none
  | .ptr id off, v => id < n ∧ (G.loc id).fixed = true ∧ v = .pointer (some ⟨(G.loc id).block, off, none⟩)
  | .eptr xs i off, v => ∃ b o c t fr size, v = .pointer (some ⟨b, o + i * size + off, none⟩) ∧ G.snap b = some (.cells c t fr) ∧ Vrow n G size xs c o
  | .vptr id gen i off, v => id < n ∧ gen ≤ (G.loc id).gen ∧ ∃ p, v = .pointer p ∧ (gen = (G.loc id).gen → p = some ⟨(G.loc id).block, (G.loc id).base + i * (G.loc id).size + off, none⟩)
  | .nilM, v => v = .map none
  | .map id, v => id < n ∧ (G.loc id).fixed = true ∧ v = .map (some (G.loc id).block)
  | .iter id, v => id < n ∧ (G.loc id).fixed = true ∧ v = .pointer (some ⟨(G.loc id).block, 0, none⟩)
  | .nilF, v => v = .nilFunc
  | .func fn first cap, v => ∃ f c, v = .func fn f c ∧ f.size = first.length ∧ c.size = cap.length ∧ Vcells n G first f 0 ∧ Vcells n G cap c 0
  | .nilI, v => v = .nilIface
  | .iface t x, v => ∃ y, v = .iface t y ∧ V n G x y
  | .agg cs, v => ∃ vs, v = .agg vs ∧ vs.size = cs.length ∧ Vcells n G cs vs 0
  | .tup xs, v => ∃ vs, v = .tuple vs ∧ vs.size = xs.length ∧ Vcells n G xs vs 0
def Vcells (n : Nat) (G : Ghost) : List AV → Array Value → Nat → Prop
  | [], _, _ => True
  | x :: xs, c, o => (∃ v, c[o]? = some v ∧ V n G x v) ∧ Vcells n G xs c (o + 1)
def Vrow (n : Nat) (G : Ghost) (size : Nat) : List AV → Array Value → Nat → Prop
  | [], _, _ => True
  | .agg cs :: xs, c, o => (cs.length = size ∧ Vcells n G cs c o) ∧ Vrow n G size xs c (o + size)
  | x :: xs, c, o => (size = 1 ∧ ∃ v, c[o]? = some v ∧ V n G x v) ∧ Vrow n G size xs c (o + size)
end



/-- From one moment to a later one: what was sealed stays so; what lies somewhere stays there as long as its generation is the same. -/
structure Ext (n n' : Nat) (G G' : Ghost) : Prop where
  le : n ≤ n'
  snap : ∀ b o, G.snap b = some o → G'.snap b = some o
  gen : ∀ id, id < n → (G.loc id).gen ≤ (G'.loc id).gen
  same : ∀ id, id < n → (G.loc id).gen = (G'.loc id).gen → G'.loc id = G.loc id
  fixed : ∀ id, id < n → (G.loc id).fixed = true → G'.loc id = G.loc id
  born : ∀ id, id < n → ∀ k b, G.born id k = some b → G'.born id k = some b
theorem Ext.refl (n : Nat) (G : Ghost) : Ext n n G G := ⟨Nat.le_refl _, fun _ _ h => h, fun _ _ => Nat.le_refl _, fun _ _ _ => rfl, fun _ _ _ => rfl, fun _ _ _ _ h => h⟩
theorem Ext.trans {n n' n'' : Nat} {G G' G'' : Ghost} (h : Ext n n' G G') (k : Ext n' n'' G' G'') : Ext n n'' G G'' where
  le := Nat.le_trans h.le k.le
  snap b o e := k.snap b o (h.snap b o e)
  gen id hi := Nat.le_trans (h.gen id hi) (k.gen id (Nat.lt_of_lt_of_le hi h.le))
  same id hi e := by
    have a := h.gen id hi
    have b := k.gen id (Nat.lt_of_lt_of_le hi h.le)
    rw [k.same id (Nat.lt_of_lt_of_le hi h.le) (by omega), h.same id hi (by omega)]
  fixed id hi e := by
    have a := h.fixed id hi e
    rw [k.fixed id (Nat.lt_of_lt_of_le hi h.le) (by rw [a]; exact e), a]
  born id hi q b e := k.born id (Nat.lt_of_lt_of_le hi h.le) q b (h.born id hi q b e)

mutual
theorem V.mono {n n' : Nat} {G G' : Ghost} (h : Ext n n' G G') : ∀ (a : AV) (v : Value), V n G a v → V n' G' a v
  | .junk, _, _ => by simp only [V]
  | .bool _, _, k => by simpa only [V] using k
  | .int _ _, _, k => by simpa only [V] using k
  | .str _, _, k => by simpa only [V] using k
  | .nilS, _, k => by simpa only [V] using k
  | .zS, _, k => by simpa only [V] using k
  | .lst xs, _, k => by
    simp only [V] at k ⊢
    rcases k with k | ⟨b, o, cap, c, t, fr, size, e, hl, hs, hr⟩
    · exact .inl k
    · exact .inr ⟨b, o, cap, c, t, fr, size, e, hl, h.snap _ _ hs, Vrow.mono h size xs c o hr⟩
  | .view id gen off len, _, k => by
    simp only [V] at k ⊢
    obtain ⟨hi, hg, a, cap, e, hl, hw⟩ := k
    refine ⟨Nat.lt_of_lt_of_le hi h.le, Nat.le_trans hg (h.gen id hi), a, cap, e, hl, fun hq => ?_⟩
    have := h.gen id hi
    have hs := h.same id hi (by omega)
    rw [hs]
    exact hw (by rw [hs] at hq; exact hq)
  | .nilP, _, k => by simpa only [V] using k
  | .ptr id off, _, k => by
    simp only [V] at k ⊢
    obtain ⟨hi, hf, e⟩ := k
    rw [h.fixed id hi hf]
    exact ⟨Nat.lt_of_lt_of_le hi h.le, hf, e⟩
  | .eptr xs i off, _, k => by
    simp only [V] at k ⊢
    obtain ⟨b, o, c, t, fr, size, e, hs, hr⟩ := k
    exact ⟨b, o, c, t, fr, size, e, h.snap _ _ hs, Vrow.mono h size xs c o hr⟩
  | .vptr id gen i off, _, k => by
    simp only [V] at k ⊢
    obtain ⟨hi, hg, p, e, hw⟩ := k
    refine ⟨Nat.lt_of_lt_of_le hi h.le, Nat.le_trans hg (h.gen id hi), p, e, fun hq => ?_⟩
    have := h.gen id hi
    have hs := h.same id hi (by omega)
    rw [hs]
    exact hw (by rw [hs] at hq; exact hq)
  | .nilM, _, k => by simpa only [V] using k
  | .map id, _, k => by
    simp only [V] at k ⊢
    obtain ⟨hi, hf, e⟩ := k
    rw [h.fixed id hi hf]
    exact ⟨Nat.lt_of_lt_of_le hi h.le, hf, e⟩
  | .iter id, _, k => by
    simp only [V] at k ⊢
    obtain ⟨hi, hf, e⟩ := k
    rw [h.fixed id hi hf]
    exact ⟨Nat.lt_of_lt_of_le hi h.le, hf, e⟩
  | .nilF, _, k => by simpa only [V] using k
  | .func fn first cap, _, k => by
    simp only [V] at k ⊢
    obtain ⟨f, c, e, hf, hc, k1, k2⟩ := k
    exact ⟨f, c, e, hf, hc, Vcells.mono h first f 0 k1, Vcells.mono h cap c 0 k2⟩
  | .nilI, _, k => by simpa only [V] using k
  | .iface t x, _, k => by
    simp only [V] at k ⊢
    obtain ⟨y, e, k⟩ := k
    exact ⟨y, e, V.mono h x y k⟩
  | .agg cs, _, k => by
    simp only [V] at k ⊢
    obtain ⟨vs, e, hs, k⟩ := k
    exact ⟨vs, e, hs, Vcells.mono h cs vs 0 k⟩
  | .tup xs, _, k => by
    simp only [V] at k ⊢
    obtain ⟨vs, e, hs, k⟩ := k
    exact ⟨vs, e, hs, Vcells.mono h xs vs 0 k⟩
theorem Vcells.mono {n n' : Nat} {G G' : Ghost} (h : Ext n n' G G') : ∀ (l : List AV) (c : Array Value) (o : Nat), Vcells n G l c o → Vcells n' G' l c o
  | [], _, _, _ => by simp only [Vcells]
  | x :: xs, c, o, k => by
    simp only [Vcells] at k ⊢
    obtain ⟨⟨v, e, k1⟩, k2⟩ := k
    exact ⟨⟨v, e, V.mono h x v k1⟩, Vcells.mono h xs c (o + 1) k2⟩
theorem Vrow.mono {n n' : Nat} {G G' : Ghost} (h : Ext n n' G G') (size : Nat) : ∀ (l : List AV) (c : Array Value) (o : Nat), Vrow n G size l c o → Vrow n' G' size l c o
  | [], _, _, _ => by simp only [Vrow]
  | .agg cs :: xs, c, o, k => by
    simp only [Vrow] at k ⊢
    exact ⟨⟨k.1.1, Vcells.mono h cs c o k.1.2⟩, Vrow.mono h size xs c (o + size) k.2⟩
  | .junk :: xs, c, o, k => by
    simp only [Vrow] at k ⊢
    obtain ⟨⟨hz, v, e, k1⟩, k2⟩ := k
    exact ⟨⟨hz, v, e, V.mono h _ v k1⟩, Vrow.mono h size xs c (o + size) k2⟩
  | .bool b :: xs, c, o, k => by
    simp only [Vrow] at k ⊢
    obtain ⟨⟨hz, v, e, k1⟩, k2⟩ := k
    exact ⟨⟨hz, v, e, V.mono h (.bool b) v k1⟩, Vrow.mono h size xs c (o + size) k2⟩
  | .int q i :: xs, c, o, k => by
    simp only [Vrow] at k ⊢
    obtain ⟨⟨hz, v, e, k1⟩, k2⟩ := k
    exact ⟨⟨hz, v, e, V.mono h (.int q i) v k1⟩, Vrow.mono h size xs c (o + size) k2⟩
  | .str b :: xs, c, o, k => by
    simp only [Vrow] at k ⊢
    obtain ⟨⟨hz, v, e, k1⟩, k2⟩ := k
    exact ⟨⟨hz, v, e, V.mono h (.str b) v k1⟩, Vrow.mono h size xs c (o + size) k2⟩
  | .nilS :: xs, c, o, k => by
    simp only [Vrow] at k ⊢
    obtain ⟨⟨hz, v, e, k1⟩, k2⟩ := k
    exact ⟨⟨hz, v, e, V.mono h .nilS v k1⟩, Vrow.mono h size xs c (o + size) k2⟩
  | .zS :: xs, c, o, k => by
    simp only [Vrow] at k ⊢
    obtain ⟨⟨hz, v, e, k1⟩, k2⟩ := k
    exact ⟨⟨hz, v, e, V.mono h .zS v k1⟩, Vrow.mono h size xs c (o + size) k2⟩
  | .lst ys :: xs, c, o, k => by
    simp only [Vrow] at k ⊢
    obtain ⟨⟨hz, v, e, k1⟩, k2⟩ := k
    exact ⟨⟨hz, v, e, V.mono h (.lst ys) v k1⟩, Vrow.mono h size xs c (o + size) k2⟩
  | .view a b d e' :: xs, c, o, k => by
    simp only [Vrow] at k ⊢
    obtain ⟨⟨hz, v, e, k1⟩, k2⟩ := k
    exact ⟨⟨hz, v, e, V.mono h (.view a b d e') v k1⟩, Vrow.mono h size xs c (o + size) k2⟩
  | .nilP :: xs, c, o, k => by
    simp only [Vrow] at k ⊢
    obtain ⟨⟨hz, v, e, k1⟩, k2⟩ := k
    exact ⟨⟨hz, v, e, V.mono h .nilP v k1⟩, Vrow.mono h size xs c (o + size) k2⟩
  | .ptr a b :: xs, c, o, k => by
    simp only [Vrow] at k ⊢
    obtain ⟨⟨hz, v, e, k1⟩, k2⟩ := k
    exact ⟨⟨hz, v, e, V.mono h (.ptr a b) v k1⟩, Vrow.mono h size xs c (o + size) k2⟩
  | .eptr a b d :: xs, c, o, k => by
    simp only [Vrow] at k ⊢
    obtain ⟨⟨hz, v, e, k1⟩, k2⟩ := k
    exact ⟨⟨hz, v, e, V.mono h (.eptr a b d) v k1⟩, Vrow.mono h size xs c (o + size) k2⟩
  | .vptr a b d e' :: xs, c, o, k => by
    simp only [Vrow] at k ⊢
    obtain ⟨⟨hz, v, e, k1⟩, k2⟩ := k
    exact ⟨⟨hz, v, e, V.mono h (.vptr a b d e') v k1⟩, Vrow.mono h size xs c (o + size) k2⟩
  | .nilM :: xs, c, o, k => by
    simp only [Vrow] at k ⊢
    obtain ⟨⟨hz, v, e, k1⟩, k2⟩ := k
    exact ⟨⟨hz, v, e, V.mono h .nilM v k1⟩, Vrow.mono h size xs c (o + size) k2⟩
  | .map a :: xs, c, o, k => by
    simp only [Vrow] at k ⊢
    obtain ⟨⟨hz, v, e, k1⟩, k2⟩ := k
    exact ⟨⟨hz, v, e, V.mono h (.map a) v k1⟩, Vrow.mono h size xs c (o + size) k2⟩
  | .iter a :: xs, c, o, k => by
    simp only [Vrow] at k ⊢
    obtain ⟨⟨hz, v, e, k1⟩, k2⟩ := k
    exact ⟨⟨hz, v, e, V.mono h (.iter a) v k1⟩, Vrow.mono h size xs c (o + size) k2⟩
  | .nilF :: xs, c, o, k => by
    simp only [Vrow] at k ⊢
    obtain ⟨⟨hz, v, e, k1⟩, k2⟩ := k
    exact ⟨⟨hz, v, e, V.mono h .nilF v k1⟩, Vrow.mono h size xs c (o + size) k2⟩
  | .func a b d :: xs, c, o, k => by
    simp only [Vrow] at k ⊢
    obtain ⟨⟨hz, v, e, k1⟩, k2⟩ := k
    exact ⟨⟨hz, v, e, V.mono h (.func a b d) v k1⟩, Vrow.mono h size xs c (o + size) k2⟩
  | .nilI :: xs, c, o, k => by
    simp only [Vrow] at k ⊢
    obtain ⟨⟨hz, v, e, k1⟩, k2⟩ := k
    exact ⟨⟨hz, v, e, V.mono h .nilI v k1⟩, Vrow.mono h size xs c (o + size) k2⟩
  | .iface a b :: xs, c, o, k => by
    simp only [Vrow] at k ⊢
    obtain ⟨⟨hz, v, e, k1⟩, k2⟩ := k
    exact ⟨⟨hz, v, e, V.mono h (.iface a b) v k1⟩, Vrow.mono h size xs c (o + size) k2⟩
  | .tup ys :: xs, c, o, k => by
    simp only [Vrow] at k ⊢
    obtain ⟨⟨hz, v, e, k1⟩, k2⟩ := k
    exact ⟨⟨hz, v, e, V.mono h (.tup ys) v k1⟩, Vrow.mono h size xs c (o + size) k2⟩
end

/-! ### What a value's own objects lie below -/
mutual
def AV.under (m : Nat) : AV → Prop
  | .view id _ _ _ | .ptr id _ | .vptr id _ _ _ | .map id | .iter id => id < m
  | .lst xs | .agg xs | .tup xs | .eptr xs _ _ => unders m xs
  | .func _ f c => unders m f ∧ unders m c
  | .iface _ x => AV.under m x
  | _ => True
def unders (m : Nat) : List AV → Prop
  | [] => True
  | x :: xs => AV.under m x ∧ unders m xs
end
theorem unders_iff {m : Nat} {l : List AV} : unders m l ↔ ∀ x ∈ l, x.under m := by
  induction l with
  | nil => simp [unders]
  | cons y ys ih => simp [unders, ih]

mutual
theorem V.lower {n m : Nat} {G : Ghost} : ∀ (a : AV) (v : Value), a.under m → V n G a v → V m G a v
  | .junk, _, _, _ => by simp only [V]
  | .bool _, _, _, k => by simpa only [V] using k
  | .int _ _, _, _, k => by simpa only [V] using k
  | .str _, _, _, k => by simpa only [V] using k
  | .nilS, _, _, k => by simpa only [V] using k
  | .zS, _, _, k => by simpa only [V] using k
  | .lst xs, _, u, k => by
    simp only [V, AV.under] at k u ⊢
    rcases k with k | ⟨b, o, cap, c, t, fr, size, e, hl, hs, hr⟩
    · exact .inl k
    · exact .inr ⟨b, o, cap, c, t, fr, size, e, hl, hs, Vrow.lower size xs c o u hr⟩
  | .view id gen off len, _, u, k => by
    simp only [V, AV.under] at k u ⊢
    exact ⟨u, k.2⟩
  | .nilP, _, _, k => by simpa only [V] using k
  | .ptr id off, _, u, k => by
    simp only [V, AV.under] at k u ⊢
    exact ⟨u, k.2⟩
  | .eptr xs i off, _, u, k => by
    simp only [V, AV.under] at k u ⊢
    obtain ⟨b, o, c, t, fr, size, e, hs, hr⟩ := k
    exact ⟨b, o, c, t, fr, size, e, hs, Vrow.lower size xs c o u hr⟩
  | .vptr id gen i off, _, u, k => by
    simp only [V, AV.under] at k u ⊢
    exact ⟨u, k.2⟩
  | .nilM, _, _, k => by simpa only [V] using k
  | .map id, _, u, k => by
    simp only [V, AV.under] at k u ⊢
    exact ⟨u, k.2⟩
  | .iter id, _, u, k => by
    simp only [V, AV.under] at k u ⊢
    exact ⟨u, k.2⟩
  | .nilF, _, _, k => by simpa only [V] using k
  | .func fn first cap, _, u, k => by
    simp only [V, AV.under] at k u ⊢
    obtain ⟨f, c, e, hf, hc, k1, k2⟩ := k
    exact ⟨f, c, e, hf, hc, Vcells.lower first f 0 u.1 k1, Vcells.lower cap c 0 u.2 k2⟩
  | .nilI, _, _, k => by simpa only [V] using k
  | .iface t x, _, u, k => by
    simp only [V, AV.under] at k u ⊢
    obtain ⟨y, e, k⟩ := k
    exact ⟨y, e, V.lower x y u k⟩
  | .agg cs, _, u, k => by
    simp only [V, AV.under] at k u ⊢
    obtain ⟨vs, e, hs, k⟩ := k
    exact ⟨vs, e, hs, Vcells.lower cs vs 0 u k⟩
  | .tup xs, _, u, k => by
    simp only [V, AV.under] at k u ⊢
    obtain ⟨vs, e, hs, k⟩ := k
    exact ⟨vs, e, hs, Vcells.lower xs vs 0 u k⟩
theorem Vcells.lower {n m : Nat} {G : Ghost} : ∀ (l : List AV) (c : Array Value) (o : Nat), unders m l → Vcells n G l c o → Vcells m G l c o
  | [], _, _, _, _ => by simp only [Vcells]
  | x :: xs, c, o, u, k => by
    simp only [Vcells, unders] at k u ⊢
    obtain ⟨⟨v, e, k1⟩, k2⟩ := k
    exact ⟨⟨v, e, V.lower x v u.1 k1⟩, Vcells.lower xs c (o + 1) u.2 k2⟩
theorem Vrow.lower {n m : Nat} {G : Ghost} (size : Nat) : ∀ (l : List AV) (c : Array Value) (o : Nat), unders m l → Vrow n G size l c o → Vrow m G size l c o
  | [], _, _, _, _ => by simp only [Vrow]
  | .agg cs :: xs, c, o, u, k => by
    simp only [Vrow, unders, AV.under] at k u ⊢
    exact ⟨⟨k.1.1, Vcells.lower cs c o u.1 k.1.2⟩, Vrow.lower size xs c (o + size) u.2 k.2⟩
  | .junk :: xs, c, o, u, k => by
    simp only [Vrow, unders] at k u ⊢
    obtain ⟨⟨hz, v, e, k1⟩, k2⟩ := k
    exact ⟨⟨hz, v, e, V.lower (.junk) v u.1 k1⟩, Vrow.lower size xs c (o + size) u.2 k2⟩
  | .bool b :: xs, c, o, u, k => by
    simp only [Vrow, unders] at k u ⊢
    obtain ⟨⟨hz, v, e, k1⟩, k2⟩ := k
    exact ⟨⟨hz, v, e, V.lower (.bool b) v u.1 k1⟩, Vrow.lower size xs c (o + size) u.2 k2⟩
  | .int q i :: xs, c, o, u, k => by
    simp only [Vrow, unders] at k u ⊢
    obtain ⟨⟨hz, v, e, k1⟩, k2⟩ := k
    exact ⟨⟨hz, v, e, V.lower (.int q i) v u.1 k1⟩, Vrow.lower size xs c (o + size) u.2 k2⟩
  | .str b :: xs, c, o, u, k => by
    simp only [Vrow, unders] at k u ⊢
    obtain ⟨⟨hz, v, e, k1⟩, k2⟩ := k
    exact ⟨⟨hz, v, e, V.lower (.str b) v u.1 k1⟩, Vrow.lower size xs c (o + size) u.2 k2⟩
  | .nilS :: xs, c, o, u, k => by
    simp only [Vrow, unders] at k u ⊢
    obtain ⟨⟨hz, v, e, k1⟩, k2⟩ := k
    exact ⟨⟨hz, v, e, V.lower (.nilS) v u.1 k1⟩, Vrow.lower size xs c (o + size) u.2 k2⟩
  | .zS :: xs, c, o, u, k => by
    simp only [Vrow, unders] at k u ⊢
    obtain ⟨⟨hz, v, e, k1⟩, k2⟩ := k
    exact ⟨⟨hz, v, e, V.lower (.zS) v u.1 k1⟩, Vrow.lower size xs c (o + size) u.2 k2⟩
  | .lst ys :: xs, c, o, u, k => by
    simp only [Vrow, unders] at k u ⊢
    obtain ⟨⟨hz, v, e, k1⟩, k2⟩ := k
    exact ⟨⟨hz, v, e, V.lower (.lst ys) v u.1 k1⟩, Vrow.lower size xs c (o + size) u.2 k2⟩
  | .view a b d e' :: xs, c, o, u, k => by
    simp only [Vrow, unders] at k u ⊢
    obtain ⟨⟨hz, v, e, k1⟩, k2⟩ := k
    exact ⟨⟨hz, v, e, V.lower (.view a b d e') v u.1 k1⟩, Vrow.lower size xs c (o + size) u.2 k2⟩
  | .nilP :: xs, c, o, u, k => by
    simp only [Vrow, unders] at k u ⊢
    obtain ⟨⟨hz, v, e, k1⟩, k2⟩ := k
    exact ⟨⟨hz, v, e, V.lower (.nilP) v u.1 k1⟩, Vrow.lower size xs c (o + size) u.2 k2⟩
  | .ptr a b :: xs, c, o, u, k => by
    simp only [Vrow, unders] at k u ⊢
    obtain ⟨⟨hz, v, e, k1⟩, k2⟩ := k
    exact ⟨⟨hz, v, e, V.lower (.ptr a b) v u.1 k1⟩, Vrow.lower size xs c (o + size) u.2 k2⟩
  | .eptr a b d :: xs, c, o, u, k => by
    simp only [Vrow, unders] at k u ⊢
    obtain ⟨⟨hz, v, e, k1⟩, k2⟩ := k
    exact ⟨⟨hz, v, e, V.lower (.eptr a b d) v u.1 k1⟩, Vrow.lower size xs c (o + size) u.2 k2⟩
  | .vptr a b d e' :: xs, c, o, u, k => by
    simp only [Vrow, unders] at k u ⊢
    obtain ⟨⟨hz, v, e, k1⟩, k2⟩ := k
    exact ⟨⟨hz, v, e, V.lower (.vptr a b d e') v u.1 k1⟩, Vrow.lower size xs c (o + size) u.2 k2⟩
  | .nilM :: xs, c, o, u, k => by
    simp only [Vrow, unders] at k u ⊢
    obtain ⟨⟨hz, v, e, k1⟩, k2⟩ := k
    exact ⟨⟨hz, v, e, V.lower (.nilM) v u.1 k1⟩, Vrow.lower size xs c (o + size) u.2 k2⟩
  | .map a :: xs, c, o, u, k => by
    simp only [Vrow, unders] at k u ⊢
    obtain ⟨⟨hz, v, e, k1⟩, k2⟩ := k
    exact ⟨⟨hz, v, e, V.lower (.map a) v u.1 k1⟩, Vrow.lower size xs c (o + size) u.2 k2⟩
  | .iter a :: xs, c, o, u, k => by
    simp only [Vrow, unders] at k u ⊢
    obtain ⟨⟨hz, v, e, k1⟩, k2⟩ := k
    exact ⟨⟨hz, v, e, V.lower (.iter a) v u.1 k1⟩, Vrow.lower size xs c (o + size) u.2 k2⟩
  | .nilF :: xs, c, o, u, k => by
    simp only [Vrow, unders] at k u ⊢
    obtain ⟨⟨hz, v, e, k1⟩, k2⟩ := k
    exact ⟨⟨hz, v, e, V.lower (.nilF) v u.1 k1⟩, Vrow.lower size xs c (o + size) u.2 k2⟩
  | .func a b d :: xs, c, o, u, k => by
    simp only [Vrow, unders] at k u ⊢
    obtain ⟨⟨hz, v, e, k1⟩, k2⟩ := k
    exact ⟨⟨hz, v, e, V.lower (.func a b d) v u.1 k1⟩, Vrow.lower size xs c (o + size) u.2 k2⟩
  | .nilI :: xs, c, o, u, k => by
    simp only [Vrow, unders] at k u ⊢
    obtain ⟨⟨hz, v, e, k1⟩, k2⟩ := k
    exact ⟨⟨hz, v, e, V.lower (.nilI) v u.1 k1⟩, Vrow.lower size xs c (o + size) u.2 k2⟩
  | .iface a b :: xs, c, o, u, k => by
    simp only [Vrow, unders] at k u ⊢
    obtain ⟨⟨hz, v, e, k1⟩, k2⟩ := k
    exact ⟨⟨hz, v, e, V.lower (.iface a b) v u.1 k1⟩, Vrow.lower size xs c (o + size) u.2 k2⟩
  | .tup ys :: xs, c, o, u, k => by
    simp only [Vrow, unders] at k u ⊢
    obtain ⟨⟨hz, v, e, k1⟩, k2⟩ := k
    exact ⟨⟨hz, v, e, V.lower (.tup ys) v u.1 k1⟩, Vrow.lower size xs c (o + size) u.2 k2⟩
end

mutual
theorem V.isUnder {n : Nat} {G : Ghost} : ∀ (a : AV) (v : Value), V n G a v → a.under n
  | .junk, _, _ | .bool _, _, _ | .int _ _, _, _ | .str _, _, _ | .nilS, _, _ | .zS, _, _ | .nilP, _, _ | .nilM, _, _ | .nilF, _, _ | .nilI, _, _ => by simp only [AV.under]
  | .lst xs, _, k => by
    simp only [V, AV.under] at k ⊢
    rcases k with ⟨rfl, k⟩ | ⟨b, o, cap, c, t, fr, size, e, hl, hs, hr⟩
    · simp only [unders]
    · exact Vrow.isUnder size xs c o hr
  | .view id gen off len, _, k => by
    simp only [V, AV.under] at k ⊢
    exact k.1
  | .ptr id off, _, k => by
    simp only [V, AV.under] at k ⊢
    exact k.1
  | .eptr xs i off, _, k => by
    simp only [V, AV.under] at k ⊢
    obtain ⟨b, o, c, t, fr, size, e, hs, hr⟩ := k
    exact Vrow.isUnder size xs c o hr
  | .vptr id gen i off, _, k => by
    simp only [V, AV.under] at k ⊢
    exact k.1
  | .map id, _, k => by
    simp only [V, AV.under] at k ⊢
    exact k.1
  | .iter id, _, k => by
    simp only [V, AV.under] at k ⊢
    exact k.1
  | .func fn first cap, _, k => by
    simp only [V, AV.under] at k ⊢
    obtain ⟨f, c, e, hf, hc, k1, k2⟩ := k
    exact ⟨Vcells.isUnder first f 0 k1, Vcells.isUnder cap c 0 k2⟩
  | .iface t x, _, k => by
    simp only [V, AV.under] at k ⊢
    obtain ⟨y, e, k⟩ := k
    exact V.isUnder x y k
  | .agg cs, _, k => by
    simp only [V, AV.under] at k ⊢
    obtain ⟨vs, e, hs, k⟩ := k
    exact Vcells.isUnder cs vs 0 k
  | .tup xs, _, k => by
    simp only [V, AV.under] at k ⊢
    obtain ⟨vs, e, hs, k⟩ := k
    exact Vcells.isUnder xs vs 0 k
theorem Vcells.isUnder {n : Nat} {G : Ghost} : ∀ (l : List AV) (c : Array Value) (o : Nat), Vcells n G l c o → unders n l
  | [], _, _, _ => by simp only [unders]
  | x :: xs, c, o, k => by
    simp only [Vcells, unders] at k ⊢
    obtain ⟨⟨v, e, k1⟩, k2⟩ := k
    exact ⟨V.isUnder x v k1, Vcells.isUnder xs c (o + 1) k2⟩
theorem Vrow.isUnder {n : Nat} {G : Ghost} (size : Nat) : ∀ (l : List AV) (c : Array Value) (o : Nat), Vrow n G size l c o → unders n l
  | [], _, _, _ => by simp only [unders]
  | .agg cs :: xs, c, o, k => by
    simp only [Vrow, unders, AV.under] at k ⊢
    exact ⟨Vcells.isUnder cs c o k.1.2, Vrow.isUnder size xs c (o + size) k.2⟩
  | .junk :: xs, c, o, k => by
    simp only [Vrow, unders] at k ⊢
    obtain ⟨⟨hz, v, e, k1⟩, k2⟩ := k
    exact ⟨V.isUnder (.junk) v k1, Vrow.isUnder size xs c (o + size) k2⟩
  | .bool b :: xs, c, o, k => by
    simp only [Vrow, unders] at k ⊢
    obtain ⟨⟨hz, v, e, k1⟩, k2⟩ := k
    exact ⟨V.isUnder (.bool b) v k1, Vrow.isUnder size xs c (o + size) k2⟩
  | .int q i :: xs, c, o, k => by
    simp only [Vrow, unders] at k ⊢
    obtain ⟨⟨hz, v, e, k1⟩, k2⟩ := k
    exact ⟨V.isUnder (.int q i) v k1, Vrow.isUnder size xs c (o + size) k2⟩
  | .str b :: xs, c, o, k => by
    simp only [Vrow, unders] at k ⊢
    obtain ⟨⟨hz, v, e, k1⟩, k2⟩ := k
    exact ⟨V.isUnder (.str b) v k1, Vrow.isUnder size xs c (o + size) k2⟩
  | .nilS :: xs, c, o, k => by
    simp only [Vrow, unders] at k ⊢
    obtain ⟨⟨hz, v, e, k1⟩, k2⟩ := k
    exact ⟨V.isUnder (.nilS) v k1, Vrow.isUnder size xs c (o + size) k2⟩
  | .zS :: xs, c, o, k => by
    simp only [Vrow, unders] at k ⊢
    obtain ⟨⟨hz, v, e, k1⟩, k2⟩ := k
    exact ⟨V.isUnder (.zS) v k1, Vrow.isUnder size xs c (o + size) k2⟩
  | .lst ys :: xs, c, o, k => by
    simp only [Vrow, unders] at k ⊢
    obtain ⟨⟨hz, v, e, k1⟩, k2⟩ := k
    exact ⟨V.isUnder (.lst ys) v k1, Vrow.isUnder size xs c (o + size) k2⟩
  | .view a b d e' :: xs, c, o, k => by
    simp only [Vrow, unders] at k ⊢
    obtain ⟨⟨hz, v, e, k1⟩, k2⟩ := k
    exact ⟨V.isUnder (.view a b d e') v k1, Vrow.isUnder size xs c (o + size) k2⟩
  | .nilP :: xs, c, o, k => by
    simp only [Vrow, unders] at k ⊢
    obtain ⟨⟨hz, v, e, k1⟩, k2⟩ := k
    exact ⟨V.isUnder (.nilP) v k1, Vrow.isUnder size xs c (o + size) k2⟩
  | .ptr a b :: xs, c, o, k => by
    simp only [Vrow, unders] at k ⊢
    obtain ⟨⟨hz, v, e, k1⟩, k2⟩ := k
    exact ⟨V.isUnder (.ptr a b) v k1, Vrow.isUnder size xs c (o + size) k2⟩
  | .eptr a b d :: xs, c, o, k => by
    simp only [Vrow, unders] at k ⊢
    obtain ⟨⟨hz, v, e, k1⟩, k2⟩ := k
    exact ⟨V.isUnder (.eptr a b d) v k1, Vrow.isUnder size xs c (o + size) k2⟩
  | .vptr a b d e' :: xs, c, o, k => by
    simp only [Vrow, unders] at k ⊢
    obtain ⟨⟨hz, v, e, k1⟩, k2⟩ := k
    exact ⟨V.isUnder (.vptr a b d e') v k1, Vrow.isUnder size xs c (o + size) k2⟩
  | .nilM :: xs, c, o, k => by
    simp only [Vrow, unders] at k ⊢
    obtain ⟨⟨hz, v, e, k1⟩, k2⟩ := k
    exact ⟨V.isUnder (.nilM) v k1, Vrow.isUnder size xs c (o + size) k2⟩
  | .map a :: xs, c, o, k => by
    simp only [Vrow, unders] at k ⊢
    obtain ⟨⟨hz, v, e, k1⟩, k2⟩ := k
    exact ⟨V.isUnder (.map a) v k1, Vrow.isUnder size xs c (o + size) k2⟩
  | .iter a :: xs, c, o, k => by
    simp only [Vrow, unders] at k ⊢
    obtain ⟨⟨hz, v, e, k1⟩, k2⟩ := k
    exact ⟨V.isUnder (.iter a) v k1, Vrow.isUnder size xs c (o + size) k2⟩
  | .nilF :: xs, c, o, k => by
    simp only [Vrow, unders] at k ⊢
    obtain ⟨⟨hz, v, e, k1⟩, k2⟩ := k
    exact ⟨V.isUnder (.nilF) v k1, Vrow.isUnder size xs c (o + size) k2⟩
  | .func a b d :: xs, c, o, k => by
    simp only [Vrow, unders] at k ⊢
    obtain ⟨⟨hz, v, e, k1⟩, k2⟩ := k
    exact ⟨V.isUnder (.func a b d) v k1, Vrow.isUnder size xs c (o + size) k2⟩
  | .nilI :: xs, c, o, k => by
    simp only [Vrow, unders] at k ⊢
    obtain ⟨⟨hz, v, e, k1⟩, k2⟩ := k
    exact ⟨V.isUnder (.nilI) v k1, Vrow.isUnder size xs c (o + size) k2⟩
  | .iface a b :: xs, c, o, k => by
    simp only [Vrow, unders] at k ⊢
    obtain ⟨⟨hz, v, e, k1⟩, k2⟩ := k
    exact ⟨V.isUnder (.iface a b) v k1, Vrow.isUnder size xs c (o + size) k2⟩
  | .tup ys :: xs, c, o, k => by
    simp only [Vrow, unders] at k ⊢
    obtain ⟨⟨hz, v, e, k1⟩, k2⟩ := k
    exact ⟨V.isUnder (.tup ys) v k1, Vrow.isUnder size xs c (o + size) k2⟩
end

/-! ### Cells and rows by their places -/
theorem Vcells_get {n : Nat} {G : Ghost} {l : List AV} {c : Array Value} {o : Nat} (h : Vcells n G l c o) {i : Nat} {x : AV} (hx : l[i]? = some x) : ∃ v, c[o + i]? = some v ∧ V n G x v := by
  induction l generalizing o i with
  | nil => simp at hx
  | cons y ys ih =>
    simp only [Vcells] at h
    cases i with
    | zero =>
      simp at hx
      subst hx
      exact h.1
    | succ i =>
      obtain ⟨v, e, k⟩ := ih h.2 (by simpa using hx)
      exact ⟨v, by rw [← e]; congr 1; omega, k⟩
theorem Vcells_size {n : Nat} {G : Ghost} {l : List AV} {c : Array Value} {o : Nat} (h : Vcells n G l c o) (hl : 0 < l.length) : o + l.length ≤ c.size := by
  obtain ⟨v, hv, _⟩ := Vcells_get h (i := l.length - 1) (List.getElem?_eq_getElem (by omega))
  rw [Array.getElem?_eq_some_iff] at hv
  have := hv.1
  omega
theorem Vcells_of {n : Nat} {G : Ghost} {l : List AV} {c : Array Value} {o : Nat} (h : ∀ (i : Nat) (x : AV), l[i]? = some x → ∃ v, c[o + i]? = some v ∧ V n G x v) : Vcells n G l c o := by
  induction l generalizing o with
  | nil => simp only [Vcells]
  | cons y ys ih =>
    simp only [Vcells]
    refine ⟨by simpa using h 0 y rfl, ih fun i x hx => ?_⟩
    obtain ⟨v, e, k⟩ := h (i + 1) x (by simpa using hx)
    exact ⟨v, by rw [← e]; congr 1; omega, k⟩
theorem Vcells_append {n : Nat} {G : Ghost} {l m : List AV} {c : Array Value} {o : Nat} : Vcells n G (l ++ m) c o ↔ Vcells n G l c o ∧ Vcells n G m c (o + l.length) := by
  induction l generalizing o with
  | nil => simp [Vcells]
  | cons y ys ih =>
    simp only [List.cons_append, Vcells, ih, List.length_cons, and_assoc]
    rw [show o + 1 + ys.length = o + (ys.length + 1) by omega]
theorem Vrow_cons {n : Nat} {G : Ghost} {size : Nat} {x : AV} {xs : List AV} {c : Array Value} {o : Nat} : Vrow n G size (x :: xs) c o ↔ (x.nc = size ∧ Vcells n G x.cells c o) ∧ Vrow n G size xs c (o + size) := by
  cases x <;> simp only [Vrow, AV.nc, AV.cells, Vcells, and_true, eq_comm]
theorem Vrow_get {n : Nat} {G : Ghost} {size : Nat} {l : List AV} {c : Array Value} {o : Nat} (h : Vrow n G size l c o) {i : Nat} {x : AV} (hx : l[i]? = some x) : x.nc = size ∧ Vcells n G x.cells c (o + i * size) := by
  induction l generalizing o i with
  | nil => simp at hx
  | cons y ys ih =>
    rw [Vrow_cons] at h
    cases i with
    | zero =>
      simp at hx
      subst hx
      simpa using h.1
    | succ i =>
      have := ih h.2 (i := i) (by simpa using hx)
      rwa [show o + size + i * size = o + (i + 1) * size by rw [Nat.succ_mul]; omega] at this
theorem Vrow_of {n : Nat} {G : Ghost} {size : Nat} {l : List AV} {c : Array Value} {o : Nat} (h : ∀ (i : Nat) (x : AV), l[i]? = some x → x.nc = size ∧ Vcells n G x.cells c (o + i * size)) : Vrow n G size l c o := by
  induction l generalizing o with
  | nil => simp only [Vrow]
  | cons y ys ih =>
    rw [Vrow_cons]
    refine ⟨by simpa using h 0 y rfl, ih fun i x hx => ?_⟩
    have := h (i + 1) x (by simpa using hx)
    rwa [show o + (i + 1) * size = o + size + i * size by rw [Nat.succ_mul]; omega] at this
theorem Vrow_append {n : Nat} {G : Ghost} {size : Nat} {l m : List AV} {c : Array Value} {o : Nat} : Vrow n G size (l ++ m) c o ↔ Vrow n G size l c o ∧ Vrow n G size m c (o + l.length * size) := by
  induction l generalizing o with
  | nil => simp [Vrow]
  | cons y ys ih =>
    rw [List.cons_append, Vrow_cons, ih, Vrow_cons, List.length_cons, ← and_assoc, show o + size + ys.length * size = o + (ys.length + 1) * size by rw [Nat.succ_mul]; omega]
/-- The cells of a value, read as an array that holds them. -/
theorem V_cells {n : Nat} {G : Ghost} {a : AV} {v : Value} (h : V n G a v) (ha : a.one = true ∨ ∃ cs, a = .agg cs) : v.cells.size = a.nc ∧ Vcells n G a.cells v.cells 0 := by
  rcases ha with ha | ⟨cs, rfl⟩
  · have hv : v.cells = #[v] := by
      cases a <;> simp only [AV.one, Bool.false_eq_true] at ha <;> simp only [V] at h
      all_goals first
        | (subst h; rfl)
        | (rcases h with ⟨_, e⟩ | ⟨_, _, _, _, _, _, _, e, _⟩ <;> subst e <;> rfl)
        | (obtain ⟨_, _, _, _, e, _⟩ := h; subst e; rfl)
        | (obtain ⟨_, _, _, _, _, _, e, _⟩ := h; subst e; rfl)
        | (obtain ⟨_, _, _, e, _⟩ := h; subst e; rfl)
        | (obtain ⟨_, _, e⟩ := h; subst e; rfl)
        | (obtain ⟨_, _, e, _⟩ := h; subst e; rfl)
        | (obtain ⟨_, e, _⟩ := h; subst e; rfl)
        | (obtain ⟨_, e⟩ := h; subst e; rfl)
    rw [hv]
    cases a <;> simp only [AV.one, Bool.false_eq_true] at ha <;> exact ⟨rfl, by simp only [AV.cells, Vcells, and_true]; exact ⟨v, rfl, h⟩⟩
  · simp only [V] at h
    obtain ⟨vs, rfl, hs, k⟩ := h
    exact ⟨hs, k⟩

end Go.Ab
end
section
namespace Go.Ab

/-- Does an object hold a block of its own? -/
def owns (l : Loc) : AObj → Bool
  | .dead => false
  | .row .. => !l.isNil
  | _ => true

/-- What holds of a map's block: each entry is known by its stamp, which is its place. -/
structure RelMap (n : Nat) (G : Ghost) (b : Key → Option Nat) (kt : KT) (es : List (Key × AV)) (ms : Array MapEntry) : Prop where
  size : ms.size = es.length
  born : ∀ (i : Nat) (m : MapEntry), ms[i]? = some m → m.born = i
  nodup : (es.map (·.1)).Nodup
  fits : ∀ e ∈ es, e.1.fits kt = true
  entry : ∀ e ∈ es, ∃ i m, b e.1 = some i ∧ ms[i]? = some m ∧ m.key = e.1.val kt ∧ V n G e.2 m.val
  back : ∀ (i : Nat) (m : MapEntry), ms[i]? = some m → ∃ e ∈ es, b e.1 = some i
  only : ∀ k i, b k = some i → k ∈ es.map (·.1)
def RelObj (n : Nat) (G : Ghost) (w : World) (l : Loc) (b : Key → Option Nat) : AObj → Prop
  | .dead => True
  | .cells ty cs => l.fixed = true ∧ ∃ c, w.heap[l.block]? = some (.cells c ty (0, 0)) ∧ c.size = cs.length ∧ Vcells n G cs c 0
  | .row ty gen sz xs => l.gen = gen ∧ l.fixed = false ∧ l.size = sz ∧ (l.isNil = true ∧ xs = [] ∨ l.isNil = false ∧ ∃ c, w.heap[l.block]? = some (.cells c ty (0, 0)) ∧ c.size = l.room ∧ l.base + xs.length * l.size ≤ l.room ∧ Vrow n G l.size xs c l.base)
  | .map kt es => l.fixed = true ∧ ∃ ms, w.heap[l.block]? = some (.map ms ms.size) ∧ RelMap n G b kt es ms
  | .iter m keys left last => l.fixed = true ∧ m < n ∧ (G.loc m).fixed = true ∧ ∃ seen, w.heap[l.block]? = some (.mapIter (some (G.loc m).block) keys.length seen keys.length) ∧ keys.Nodup ∧ left.Nodup ∧ (∀ k ∈ left, k ∈ keys) ∧
      (∀ k ∈ keys, ∃ i, G.born m k = some i ∧ i < keys.length ∧ (i ∈ seen ↔ k ∉ left)) ∧ (∀ k, last = some k → k ∈ keys ∧ ∃ i, G.born m k = some i ∧ seen.back? = some i)
  | .siter s pos => l.fixed = true ∧ w.heap[l.block]? = some (.stringIter (ba s) pos)

structure Rel (G : Ghost) (H : Heap) (w : World) : Prop where
  snap : ∀ b o, G.snap b = some o → w.heap[b]? = some o
  obj : ∀ id o, H[id]? = some o → RelObj H.length G w (G.loc id) (G.born id) o
  own : ∀ id o, H[id]? = some o → owns (G.loc id) o = true → G.snap (G.loc id).block = none ∧ (G.loc id).block < w.heap.size
  apart : ∀ i j oi oj, i ≠ j → H[i]? = some oi → H[j]? = some oj → owns (G.loc i) oi = true → owns (G.loc j) oj = true → (G.loc i).block ≠ (G.loc j).block

structure Step (n n' : Nat) (G : Ghost) (w : World) (G' : Ghost) (w' : World) : Prop where
  ext : Ext n n' G G'
  os : w'.os = w.os
  tape : w'.tape = w.tape
  output : w'.output = w.output
  size : w.heap.size ≤ w'.heap.size
theorem Step.refl (n : Nat) (G : Ghost) (w : World) : Step n n G w G w := ⟨Ext.refl _ _, rfl, rfl, rfl, Nat.le_refl _⟩
theorem Step.trans {n n' n'' : Nat} {G G' G'' : Ghost} {w w' w'' : World} (h : Step n n' G w G' w') (k : Step n' n'' G' w' G'' w'') : Step n n'' G w G'' w'' :=
  ⟨h.ext.trans k.ext, k.os.trans h.os, k.tape.trans h.tape, k.output.trans h.output, Nat.le_trans h.size k.size⟩

theorem RelMap.mono {n n' : Nat} {G G' : Ghost} {b : Key → Option Nat} {kt : KT} {es : List (Key × AV)} {ms : Array MapEntry} (h : RelMap n G b kt es ms) (hE : Ext n n' G G') : RelMap n' G' b kt es ms :=
  { h with entry := fun e he => let ⟨i, m, h1, h2, h3, h4⟩ := h.entry e he; ⟨i, m, h1, h2, h3, V.mono hE _ _ h4⟩ }
theorem RelObj.mono {n n' : Nat} {G G' : Ghost} {w w' : World} {l : Loc} {b : Key → Option Nat} {o : AObj} (h : RelObj n G w l b o) (hE : Ext n n' G G') (hw : owns l o = true → w'.heap[l.block]? = w.heap[l.block]?) : RelObj n' G' w' l b o := by
  cases o with
  | dead => trivial
  | cells ty cs =>
    obtain ⟨hf, c, e, hs, k⟩ := h
    exact ⟨hf, c, (hw rfl).trans e, hs, Vcells.mono hE _ _ _ k⟩
  | row ty gen sz xs =>
    obtain ⟨hg, hf, hz, h⟩ := h
    refine ⟨hg, hf, hz, ?_⟩
    rcases h with h | ⟨hn, c, e, hs, hr, k⟩
    · exact .inl h
    · exact .inr ⟨hn, c, (hw (by simp [owns, hn])).trans e, hs, hr, Vrow.mono hE _ _ _ _ k⟩
  | map kt es =>
    obtain ⟨hf, ms, e, k⟩ := h
    exact ⟨hf, ms, (hw rfl).trans e, k.mono hE⟩
  | iter m keys left last =>
    obtain ⟨hf, hm, hmf, seen, e, h1, h2, h3, h8, h9⟩ := h
    refine ⟨hf, Nat.lt_of_lt_of_le hm hE.le, by rw [hE.fixed m hm hmf]; exact hmf, seen, by rw [hw rfl, e, hE.fixed m hm hmf], h1, h2, h3, fun k hk => ?_, fun k hk => ?_⟩
    · obtain ⟨i, a1, a2⟩ := h8 k hk
      exact ⟨i, hE.born m hm k i a1, a2⟩
    · obtain ⟨a0, i, a1, a2⟩ := h9 k hk
      exact ⟨a0, i, hE.born m hm k i a1, a2⟩
  | siter s p => exact ⟨h.1, (hw rfl).trans h.2⟩

def Ghost.put (G : Ghost) (id : Nat) (L : Loc) : Ghost := { G with loc := fun j => if j = id then L else G.loc j }
@[simp] theorem Ghost.put_snap (G : Ghost) (id : Nat) (L : Loc) : (G.put id L).snap = G.snap := rfl
@[simp] theorem Ghost.put_same (G : Ghost) (id : Nat) (L : Loc) : (G.put id L).loc id = L := by simp [Ghost.put]
@[simp] theorem Ghost.put_born (G : Ghost) (id : Nat) (L : Loc) : (G.put id L).born = G.born := rfl
def Ghost.bear (G : Ghost) (id : Nat) (B : Key → Option Nat) : Ghost := { G with born := fun j => if j = id then B else G.born j }
@[simp] theorem Ghost.bear_snap (G : Ghost) (id : Nat) (B : Key → Option Nat) : (G.bear id B).snap = G.snap := rfl
@[simp] theorem Ghost.bear_loc (G : Ghost) (id : Nat) (B : Key → Option Nat) : (G.bear id B).loc = G.loc := rfl
@[simp] theorem Ghost.bear_same (G : Ghost) (id : Nat) (B : Key → Option Nat) : (G.bear id B).born id = B := by simp [Ghost.bear]
theorem Ghost.bear_other (G : Ghost) {id j : Nat} (B : Key → Option Nat) (h : j ≠ id) : (G.bear id B).born j = G.born j := by simp [Ghost.bear, h]
theorem Ghost.put_other (G : Ghost) {id j : Nat} (L : Loc) (h : j ≠ id) : (G.put id L).loc j = G.loc j := by simp [Ghost.put, h]

theorem Ext.push (G : Ghost) (n : Nat) (L : Loc) : Ext n (n + 1) G (G.put n L) where
  le := Nat.le_succ _
  snap _ _ h := h
  gen id hi := by rw [Ghost.put_other _ _ (by omega)]; exact Nat.le_refl _
  same id hi _ := Ghost.put_other _ _ (by omega)
  fixed id hi _ := Ghost.put_other _ _ (by omega)
  born _ _ _ _ h := h

theorem Rel.fresh {G : Ghost} {H : Heap} {w : World} (h : Rel G H w) : G.snap w.heap.size = none := by
  cases e : G.snap w.heap.size with
  | none => rfl
  | some o => have := h.snap _ _ e; simp at this

theorem getElem?_snoc {α : Type} {l : List α} {x y : α} {i : Nat} (h : (l ++ [x])[i]? = some y) : (i < l.length ∧ l[i]? = some y) ∨ (i = l.length ∧ y = x) := by
  rcases Nat.lt_trichotomy i l.length with hi | hi | hi
  · exact .inl ⟨hi, by rwa [List.getElem?_append_left hi] at h⟩
  · subst hi; exact .inr ⟨rfl, by simpa using h.symm⟩
  · rw [List.getElem?_eq_none (by simp; omega)] at h; cases h

/-- A new object. -/
theorem Rel.push {G : Ghost} {H : Heap} {w w' : World} (h : Rel G H w) (o : AObj) (L : Loc) (hL : owns L o = true → L.block = w.heap.size ∧ w.heap.size < w'.heap.size) (hs : w.heap.size ≤ w'.heap.size)
    (hw : ∀ b, b < w.heap.size → w'.heap[b]? = w.heap[b]?) (hos : w'.os = w.os ∧ w'.tape = w.tape ∧ w'.output = w.output)
    (ho : RelObj (H.length + 1) (G.put H.length L) w' L (G.born H.length) o) : Rel (G.put H.length L) (H ++ [o]) w' ∧ Step H.length (H ++ [o]).length G w (G.put H.length L) w' := by
  have hE := Ext.push G H.length L
  refine ⟨⟨?_, ?_, ?_, ?_⟩, ⟨by simpa using hE, hos.1, hos.2.1, hos.2.2, hs⟩⟩
  · intro b x hb
    have := h.snap b x hb
    rw [hw b (by rw [Array.getElem?_eq_some_iff] at this; exact this.1)]
    exact this
  · intro id x hx
    rcases getElem?_snoc hx with ⟨hi, hx⟩ | ⟨rfl, rfl⟩
    · rw [Ghost.put_other _ _ (by omega)]
      simp only [List.length_append, List.length_cons, List.length_nil, Nat.zero_add]
      exact (h.obj id x hx).mono hE fun hon => hw _ (h.own id x hx hon).2
    · rw [Ghost.put_same]
      simpa using ho
  · intro id x hx hon
    rcases getElem?_snoc hx with ⟨hi, hx⟩ | ⟨rfl, rfl⟩
    · rw [Ghost.put_other _ _ (by omega)] at hon ⊢
      have := h.own id x hx hon
      exact ⟨this.1, Nat.lt_of_lt_of_le this.2 hs⟩
    · rw [Ghost.put_same] at hon ⊢
      rw [(hL hon).1]
      exact ⟨h.fresh, (hL hon).2⟩
  · intro i j oi oj hne hi hj oni onj
    rcases getElem?_snoc hi with ⟨hil, hi'⟩ | ⟨rfl, rfl⟩ <;> rcases getElem?_snoc hj with ⟨hjl, hj'⟩ | ⟨rfl, rfl⟩
    · rw [Ghost.put_other _ _ (by omega)] at oni ⊢
      rw [Ghost.put_other _ _ (by omega)] at onj ⊢
      exact h.apart i j oi oj hne hi' hj' oni onj
    · rw [Ghost.put_same] at onj ⊢
      rw [Ghost.put_other _ _ (by omega)] at oni ⊢
      rw [(hL onj).1]
      have := (h.own i oi hi' oni).2
      omega
    · rw [Ghost.put_same] at oni ⊢
      rw [Ghost.put_other _ _ (by omega)] at onj ⊢
      rw [(hL oni).1]
      have := (h.own j oj hj' onj).2
      omega
    · exact absurd rfl hne

/-- An object turned; it may have moved to a new block. -/
theorem Rel.put {G : Ghost} {H : Heap} {w w' : World} (h : Rel G H w) (id : Nat) (o o' : AObj) (L : Loc) (hid : H[id]? = some o)
    (hE : Ext H.length H.length G (G.put id L)) (hs : w.heap.size ≤ w'.heap.size)
    (hL : owns L o' = true → (L.block = (G.loc id).block ∧ owns (G.loc id) o = true) ∨ (w.heap.size ≤ L.block ∧ L.block < w'.heap.size))
    (hw : ∀ b, b < w.heap.size → (owns (G.loc id) o = true → b ≠ (G.loc id).block) → w'.heap[b]? = w.heap[b]?) (hos : w'.os = w.os ∧ w'.tape = w.tape ∧ w'.output = w.output)
    (ho : RelObj H.length (G.put id L) w' L (G.born id) o') : Rel (G.put id L) (H.set id o') w' ∧ Step H.length (H.set id o').length G w (G.put id L) w' := by
  have hlt : id < H.length := by rw [List.getElem?_eq_some_iff] at hid; exact hid.1
  have hset : ∀ {j x}, (H.set id o')[j]? = some x → (j ≠ id ∧ H[j]? = some x) ∨ (j = id ∧ x = o') := by
    intro j x hx
    rw [List.getElem?_set] at hx
    split at hx
    · rename_i e
      subst e
      simp at hx
      exact .inr ⟨rfl, hx.symm⟩
    · rename_i e
      exact .inl ⟨fun k => e k.symm, hx⟩
  refine ⟨⟨?_, ?_, ?_, ?_⟩, ⟨by simpa using hE, hos.1, hos.2.1, hos.2.2, hs⟩⟩
  · intro b x hb
    have := h.snap b x hb
    rw [hw b (by rw [Array.getElem?_eq_some_iff] at this; exact this.1) (fun hon e => by
      have := (h.own id o hid hon).1
      rw [← e] at this
      simp only [Ghost.put_snap] at hb
      rw [this] at hb; cases hb)]
    exact this
  · intro j x hx
    rcases hset hx with ⟨hne, hx⟩ | ⟨rfl, rfl⟩
    · rw [Ghost.put_other _ _ hne]
      simp only [List.length_set]
      refine (h.obj j x hx).mono hE fun hon => hw _ (h.own j x hx hon).2 fun hon' => h.apart j id x o hne hx hid hon hon'
    · rw [Ghost.put_same]
      simpa using ho
  · intro j x hx hon
    rcases hset hx with ⟨hne, hx⟩ | ⟨rfl, rfl⟩
    · rw [Ghost.put_other _ _ hne] at hon ⊢
      have := h.own j x hx hon
      exact ⟨this.1, Nat.lt_of_lt_of_le this.2 hs⟩
    · rw [Ghost.put_same] at hon ⊢
      rcases hL hon with ⟨e, hon'⟩ | ⟨e, e'⟩
      · rw [e]
        have := h.own j o hid hon'
        exact ⟨this.1, Nat.lt_of_lt_of_le this.2 hs⟩
      · refine ⟨?_, e'⟩
        cases es : G.snap L.block with
        | none => simpa using es
        | some y =>
          have := h.snap _ _ es
          rw [Array.getElem?_eq_some_iff] at this
          have := this.1
          omega
  · intro i j oi oj hne hi hj oni onj
    rcases hset hi with ⟨hni, hi'⟩ | ⟨rfl, rfl⟩ <;> rcases hset hj with ⟨hnj, hj'⟩ | ⟨rfl, rfl⟩
    · rw [Ghost.put_other _ _ hni] at oni ⊢
      rw [Ghost.put_other _ _ hnj] at onj ⊢
      exact h.apart i j oi oj hne hi' hj' oni onj
    · rw [Ghost.put_same] at onj ⊢
      rw [Ghost.put_other _ _ hni] at oni ⊢
      rcases hL onj with ⟨e, hon'⟩ | ⟨e, e'⟩
      · rw [e]; exact h.apart i _ oi o hni hi' hid oni hon'
      · have := (h.own i oi hi' oni).2
        omega
    · rw [Ghost.put_same] at oni ⊢
      rw [Ghost.put_other _ _ hnj] at onj ⊢
      rcases hL oni with ⟨e, hon'⟩ | ⟨e, e'⟩
      · rw [e]; exact h.apart _ j o oj (fun k => hnj k.symm) hid hj' hon' onj
      · have := (h.own j oj hj' onj).2
        omega
    · exact absurd rfl hne

mutual
theorem AV.umono {n m : Nat} (h : n ≤ m) : ∀ a : AV, a.under n → a.under m
  | .junk, _ | .bool _, _ | .int _ _, _ | .str _, _ | .nilS, _ | .zS, _ | .nilP, _ | .nilM, _ | .nilF, _ | .nilI, _ => by simp only [AV.under]
  | .lst xs, k => by simp only [AV.under] at k ⊢; exact unders_umono h xs k
  | .agg xs, k => by simp only [AV.under] at k ⊢; exact unders_umono h xs k
  | .tup xs, k => by simp only [AV.under] at k ⊢; exact unders_umono h xs k
  | .eptr xs _ _, k => by simp only [AV.under] at k ⊢; exact unders_umono h xs k
  | .view _ _ _ _, k => by simp only [AV.under] at k ⊢; omega
  | .ptr _ _, k => by simp only [AV.under] at k ⊢; omega
  | .vptr _ _ _ _, k => by simp only [AV.under] at k ⊢; omega
  | .map _, k => by simp only [AV.under] at k ⊢; omega
  | .iter _, k => by simp only [AV.under] at k ⊢; omega
  | .iface _ x, k => by simp only [AV.under] at k ⊢; exact AV.umono h x k
  | .func _ f c, k => by simp only [AV.under] at k ⊢; exact ⟨unders_umono h f k.1, unders_umono h c k.2⟩
theorem unders_umono {n m : Nat} (h : n ≤ m) : ∀ l : List AV, unders n l → unders m l
  | [], _ => by simp only [unders]
  | x :: xs, k => by simp only [unders] at k ⊢; exact ⟨AV.umono h x k.1, unders_umono h xs k.2⟩
end
def AObj.under (m : Nat) : AObj → Prop
  | .cells _ cs => unders m cs
  | .row _ _ _ xs => unders m xs
  | .map _ es => ∀ e ∈ es, e.2.under m
  | .iter k _ _ _ => k < m
  | _ => True
theorem AObj.umono {n m : Nat} (h : n ≤ m) {o : AObj} (k : o.under n) : o.under m := by
  cases o <;> simp only [AObj.under] at k ⊢
  all_goals first
    | exact unders_umono h _ k
    | exact fun x hx => AV.umono h _ (k x hx)
    | omega
theorem heap_under {H L : Heap} (h : ∀ o ∈ H, o.under H.length) (k : ∀ o ∈ L, o.under (H ++ L).length) : ∀ o ∈ H ++ L, o.under (H ++ L).length := by
  intro o ho
  rcases List.mem_append.1 ho with ho | ho
  · exact AObj.umono (by simp) (h o ho)
  · exact k o ho
theorem RelObj.isUnder {n : Nat} {G : Ghost} {w : World} {l : Loc} {b : Key → Option Nat} {o : AObj} (h : RelObj n G w l b o) : o.under n := by
  cases o with
  | dead => trivial
  | cells ty cs =>
    obtain ⟨_, c, _, _, k⟩ := h
    exact Vcells.isUnder _ _ _ k
  | row ty gen sz xs =>
    obtain ⟨_, _, _, ⟨_, rfl⟩ | ⟨_, c, _, _, _, k⟩⟩ := h
    · simp only [AObj.under, unders]
    · exact Vrow.isUnder _ _ _ _ k
  | map kt es =>
    obtain ⟨_, ms, _, k⟩ := h
    intro e he
    obtain ⟨i, m, _, _, _, k⟩ := k.entry e he
    exact V.isUnder _ _ k
  | iter m keys left last => exact h.2.1
  | siter s p => trivial
theorem RelObj.lower {n m : Nat} {G : Ghost} {w : World} {l : Loc} {b : Key → Option Nat} {o : AObj} (h : RelObj n G w l b o) (u : o.under m) : RelObj m G w l b o := by
  cases o with
  | dead => trivial
  | cells ty cs =>
    obtain ⟨hf, c, e, hs, k⟩ := h
    exact ⟨hf, c, e, hs, Vcells.lower _ _ _ u k⟩
  | row ty gen sz xs =>
    obtain ⟨hg, hf, hz, h⟩ := h
    refine ⟨hg, hf, hz, ?_⟩
    rcases h with h | ⟨hn, c, e, hs, hr, k⟩
    · exact .inl h
    · exact .inr ⟨hn, c, e, hs, hr, Vrow.lower _ _ _ _ u k⟩
  | map kt es =>
    obtain ⟨hf, ms, e, k⟩ := h
    exact ⟨hf, ms, e, { k with entry := fun x hx => let ⟨i, m', a1, a2, a3, a4⟩ := k.entry x hx; ⟨i, m', a1, a2, a3, V.lower _ _ (u x hx) a4⟩ }⟩
  | iter m keys left last => exact ⟨h.1, u, h.2.2⟩
  | siter s p => exact h
theorem Rel.isUnder {G : Ghost} {H : Heap} {w : World} (h : Rel G H w) : ∀ o ∈ H, o.under H.length := by
  intro o ho
  obtain ⟨i, hi⟩ := List.getElem?_of_mem ho
  exact (h.obj i o hi).isUnder

/-- What is not looked at any more is let go. -/
theorem Rel.drop {G : Ghost} {H L : Heap} {w : World} (h : Rel G (H ++ L) w) (hu : ∀ o ∈ H, o.under H.length) : Rel G H w := by
  have hsub : ∀ {j : Nat} {x : AObj}, H[j]? = some x → (H ++ L)[j]? = some x := by
    intro j x hx
    rw [List.getElem?_append_left (by rw [List.getElem?_eq_some_iff] at hx; exact hx.1)]
    exact hx
  exact ⟨h.snap, fun id o hid => (h.obj id o (hsub hid)).lower (hu o (List.mem_of_getElem? hid)), fun id o hid => h.own id o (hsub hid), fun i j oi oj hne hi hj => h.apart i j oi oj hne (hsub hi) (hsub hj)⟩

/-- The world's draws are of no account. -/
theorem Rel.drawn {G : Ghost} {H : Heap} {w w' : World} (h : Rel G H w) (hh : w'.heap = w.heap) : Rel G H w' :=
  ⟨fun b o e => by rw [hh]; exact h.snap b o e, fun id o e => (h.obj id o e).mono (Ext.refl _ _) (fun _ => by rw [hh]), fun id o e k => by rw [hh]; exact h.own id o e k, h.apart⟩

/-! ### Slots -/
abbrev Env := List (Nat × AV)
def Env.get : Env → Nat → AV
  | [], _ => .junk
  | (t, v) :: r, s => if s = t then v else Env.get r s
/-- A call's slots, how many; what waits for its end. -/
structure Fr where
  size : Nat
  ds : List Deferred
instance : Coe Nat Fr := ⟨fun n => ⟨n, []⟩⟩
structure EnvRel (N : Fr) (n : Nat) (G : Ghost) (e : Env) (a : Act) : Prop where
  size : a.tmps.size = N.size
  defers : a.defers = N.ds
  slot : ∀ s, V n G (e.get s) (a.tmps.getD s undef)
theorem EnvRel.mono {N : Fr} {n n' : Nat} {G G' : Ghost} {e : Env} {a : Act} (h : EnvRel N n G e a) (hE : Ext n n' G G') : EnvRel N n' G' e a :=
  ⟨h.size, h.defers, fun s => V.mono hE _ _ (h.slot s)⟩
theorem EnvRel.put {N : Fr} {n : Nat} {G : Ghost} {e : Env} {a : Act} (h : EnvRel N n G e a) {d : Nat} (hd : d < N.size) {x : AV} {v : Value} (hv : V n G x v) : EnvRel N n G ((d, x) :: e) (a.put (some d) v) := by
  refine ⟨by simpa [Act.put] using h.size, h.defers, fun s => ?_⟩
  simp only [Env.get, Act.put]
  split
  · rename_i e
    subst e
    rw [Array.getD_eq_getD_getElem?, Array.getElem?_setIfInBounds]
    simpa [h.size, hd] using hv
  · rename_i hne
    rw [Array.getD_eq_getD_getElem?, Array.getElem?_setIfInBounds, if_neg (fun k => hne k.symm), ← Array.getD_eq_getD_getElem?]
    exact h.slot s

/-- A constant as a proof sees it. -/
def ofVal : Nat → Value → AV
  | 0, _ => .junk
  | k + 1, v => match v with
    | .bool b => .bool b
    | .int q i => .int q i
    | .string s => .str s.data.toList
    | .slice none 0 0 => .nilS
    | .pointer none => .nilP
    | .map none => .nilM
    | .nilFunc => .nilF
    | .nilIface => .nilI
    | .agg cs => .agg (cs.toList.map (ofVal k))
    | .tuple cs => .tup (cs.toList.map (ofVal k))
    | .iface t x => .iface t (ofVal k x)
    | .func fn f c => .func fn (f.toList.map (ofVal k)) (c.toList.map (ofVal k))
    | _ => .junk
theorem V_ofVal (n : Nat) (G : Ghost) : ∀ (k : Nat) (v : Value), V n G (ofVal k v) v := by
  intro k
  induction k with
  | zero => intro v; simp only [ofVal, V]
  | succ k ih =>
    have cells : ∀ cs : Array Value, Vcells n G (cs.toList.map (ofVal k)) cs 0 := fun cs => Vcells_of fun i x hx => by
      rw [List.getElem?_map, Option.map_eq_some_iff] at hx
      obtain ⟨y, hy, rfl⟩ := hx
      exact ⟨y, by simpa using hy, ih y⟩
    intro v
    unfold ofVal
    split <;> simp only [V]
    · exact congrArg Value.string (by simp [ba])
    · exact ⟨_, rfl, by simp, cells _⟩
    · exact ⟨_, rfl, by simp, cells _⟩
    · exact ⟨_, rfl, ih _⟩
    · exact ⟨_, _, rfl, by simp, by simp, cells _, cells _⟩

def Env.ev (e : Env) : Operand → AV
  | .tmp t => e.get t
  | .const v => ofVal 6 v
  | .global _ => .junk
  | .func f => .func (.func f) [] []
theorem EnvRel.ev {N : Fr} {n : Nat} {G : Ghost} {e : Env} {a : Act} (h : EnvRel N n G e a) (x : Operand) : V n G (e.ev x) (a.eval x) := by
  cases x with
  | tmp t => exact h.slot t
  | const v => exact V_ofVal n G 6 v
  | global g => simp only [Env.ev, V]
  | func f => simp only [Env.ev, V, Act.eval]; exact ⟨#[], #[], rfl, rfl, rfl, by simp [Vcells], by simp [Vcells]⟩

end Go.Ab
end
section
set_option linter.unusedSimpArgs false
set_option linter.unusedVariables false
namespace Go.Ab
variable {P : Program} {o : Oper} {e : Env} {H : Heap}

/-- One operation: from slots 'e' and objects 'H' it gives 'x' and leaves 'H''. -/
def Exec (P : Program) (o : Oper) (e : Env) (H : Heap) (x : AV) (H' : Heap) : Prop :=
  ∀ (N : Fr) (G : Ghost) (a : Act) (w : World), Rel G H w → EnvRel N H.length G e a →
    ∃ r v w' G', (execOp a.eval o).run P w = .ok r w' ∧ (r = .value v ∨ (r = .skip ∧ v = undef)) ∧ V H'.length G' x v ∧ Rel G' H' w' ∧ Step H.length H'.length G w G' w'

theorem Exec.of_run {x : AV} (h : ∀ (N : Fr) (G : Ghost) (a : Act) (w : World), Rel G H w → EnvRel N H.length G e a → ∃ v, (execOp a.eval o).run P w = .ok (.value v) w ∧ V H.length G x v) : Exec P o e H x H :=
  fun N G a w hR hE => let ⟨v, hr, hv⟩ := h N G a w hR hE; ⟨.value v, v, w, G, hr, .inl rfl, hv, hR, Step.refl _ _ _⟩

theorem run_bind {α β : Type} (P : Program) (s : Sem α) (f : α → Sem β) (w : World) : (s.bind f).run P w = match s.run P w with | .ok a w' => (f a).run P w' | .halt h w' => .halt h w' := by
  induction s generalizing w with
  | pure a => rfl
  | load m a k ih =>
    simp only [Sem.bind, Sem.run]
    split
    · exact ih _ _
    · split
      · exact ih _ _
      · rfl
  | store m a v k ih =>
    cases v <;> simp only [Sem.bind, Sem.run]
    all_goals first
      | rfl
      | (split
         · split
           · rfl
           · exact ih _
         · split
           · exact ih _
           · rfl)
  | new o k ih => simp only [Sem.bind, Sem.run]; exact ih _ _
  | shape r k ih => simp only [Sem.bind, Sem.run]; exact ih _ _
  | freeze a n k ih => simp only [Sem.bind, Sem.run]; exact ih _
  | frozen a k ih => simp only [Sem.bind, Sem.run]; exact ih _ _
  | getObj r k ih =>
    simp only [Sem.bind, Sem.run]
    split
    · rfl
    · exact ih _ _
    · rfl
  | setObj r o k ih =>
    simp only [Sem.bind, Sem.run]
    split
    · rfl
    · exact ih _
    · rfl
  | choose q k ih =>
    simp only [Sem.bind, Sem.run]
    split
    · exact ih _ _
    · exact ih _ _
  | sys c k ih => simp only [Sem.bind, Sem.run]; exact ih _ _
  | program k ih => simp only [Sem.bind, Sem.run]; exact ih _ _
  | mark m k ih => simp only [Sem.bind, Sem.run]; exact ih _
  | halt h => rfl
theorem run_value (P : Program) (s : Sem Value) (w w' : World) (v : Value) (h : s.run P w = .ok v w') : (do pure (Next.value (← s)) : Sem Next).run P w = .ok (.value v) w' := by
  show (s.bind _).run P w = _
  rw [run_bind, h]; rfl
theorem run_unit (P : Program) (s : Sem Unit) (w w' : World) (h : s.run P w = .ok () w') : (do s; pure Next.skip : Sem Next).run P w = .ok .skip w' := by
  show (s.bind _).run P w = _
  rw [run_bind, h]; rfl

/-! ### What moves values alone -/
theorem exec_move {x : Operand} (ho : o.op = .move x ∨ o.op = .assign x) : Exec P o e H (e.ev x) H :=
  .of_run fun N G a w _ hE => ⟨a.eval x, by rcases ho with h | h <;> simp [execOp, h, pure, Sem.run], hE.ev x⟩
theorem exec_pick {c x y : Operand} {b : Bool} (ho : o.op = .pick c x y) (hc : e.ev c = .bool b) : Exec P o e H (if b = true then e.ev x else e.ev y) H :=
  .of_run fun N G a w _ hE => by
    have h := hE.ev c
    rw [hc] at h
    simp only [V] at h
    refine ⟨if b = true then a.eval x else a.eval y, by simp [execOp, ho, h, asBool, pure, bind, Sem.bind, Sem.run], ?_⟩
    cases b
    · exact hE.ev y
    · exact hE.ev x
theorem exec_extract {t : Operand} {i : Nat} {xs : List AV} {x : AV} (ho : o.op = .extract t i) (ht : e.ev t = .tup xs) (hx : xs[i]? = some x) : Exec P o e H x H :=
  .of_run fun N G a w _ hE => by
    have h := hE.ev t
    rw [ht] at h
    simp only [V] at h
    obtain ⟨vs, he, hs, hc⟩ := h
    obtain ⟨v, hv, k⟩ := Vcells_get hc hx
    rw [Nat.zero_add] at hv
    exact ⟨v, by simp [execOp, ho, he, Instr.extract, hv, pure, bind, Sem.bind, Sem.run], k⟩
theorem Vcells_map {n : Nat} {N : Fr} {G : Ghost} {a : Act} (hE : EnvRel N n G e a) (l : Array Operand) : Vcells n G (l.toList.map e.ev) (l.map a.eval) 0 := Vcells_of fun i x hx => by
  rw [List.getElem?_map, Option.map_eq_some_iff] at hx
  obtain ⟨y, hy, rfl⟩ := hx
  exact ⟨a.eval y, by simpa using ⟨y, by simpa using hy, rfl⟩, hE.ev y⟩
theorem exec_makeFunc {fn : Fn} {first cap : Array Operand} (ho : o.op = .makeFunc fn first cap) : Exec P o e H (.func fn (first.toList.map e.ev) (cap.toList.map e.ev)) H :=
  .of_run fun N G a w _ hE => ⟨.func fn (first.map a.eval) (cap.map a.eval), by simp [execOp, ho, Instr.makeFunc, pure, bind, Sem.bind, Sem.run], by
    simp only [V]
    exact ⟨_, _, rfl, by simp, by simp, Vcells_map hE first, Vcells_map hE cap⟩⟩

end Go.Ab
end
section
set_option linter.unusedSimpArgs false
set_option linter.unusedVariables false
namespace Go.Ab

/-! ### Types, as far as operations ask -/
inductive Desc where
  | bad | other
  | bool | int (k : IntKind) | string
  | pointer (e : TypeId) | slice (e : TypeId) | array (n : Nat) (e : TypeId) | map (k e : TypeId)
  | struct (fs : List (TypeId × Nat × Bool))
  | iface (any : Bool)
  | func
  deriving DecidableEq, Inhabited
structure TI where
  d : Desc
  size : Nat
  bytes : Nat
  zero : AV
def descOf : Option TypeDesc → Desc
  | none => .bad
  | some .bool => .bool
  | some (.int k) => .int k
  | some .string => .string
  | some (.pointer e) => .pointer e
  | some (.slice e) => .slice e
  | some (.array n e) => .array n e
  | some (.map k e) => .map k e
  | some (.struct fs) => .struct (fs.toList.map fun f => (f.type, f.offset, f.name == "_"))
  | some (.interface ms) => .iface ms.isEmpty
  | some (.func _ _ _) => .func
  | some _ => .other
def _root_.Go.Program.ti (P : Program) (t : TypeId) : TI :=
  match P.info? t with
  | none => ⟨.bad, 0, 0, .junk⟩
  | some i => ⟨descOf (P.underlying t), i.size, i.bytes, match i.zero with | some z => ofVal 6 z | none => .junk⟩
def Desc.agg : Desc → Bool
  | .struct _ | .array _ _ => true
  | _ => false

section
variable {P : Program} {t : TypeId}
theorem ti_info (h : (P.ti t).d ≠ .bad) : ∃ i, P.info? t = some i ∧ (P.ti t).size = i.size ∧ (P.ti t).bytes = i.bytes := by
  unfold Program.ti at h ⊢
  split at h
  · exact absurd rfl h
  · rename_i i e
    exact ⟨i, e, rfl, rfl⟩
theorem ti_under (h : (P.ti t).d ≠ .bad) : ∃ u, P.underlying t = some u ∧ (P.ti t).d = descOf (some u) := by
  unfold Program.ti at h ⊢
  split at h
  · exact absurd rfl h
  · rename_i i e
    cases hu : P.underlying t with
    | none => rw [hu] at h; exact absurd rfl h
    | some u => exact ⟨u, rfl, rfl⟩
theorem run_underlying {u : TypeDesc} (h : P.underlying t = some u) (w : World) : (underlying t).run P w = .ok u w := by
  show (program.bind _).run P w = _
  rw [run_bind]
  simp only [program, Sem.run, h]
  rfl
theorem run_typeInfo {i : TypeInfo} (h : P.info? t = some i) (w : World) : (typeInfo t).run P w = .ok i w := by
  show (program.bind _).run P w = _
  rw [run_bind]
  simp only [program, Sem.run, h]
  rfl
theorem run_sizeOf (h : (P.ti t).d ≠ .bad) (w : World) : (sizeOf t).run P w = .ok (P.ti t).size w := by
  obtain ⟨i, hi, hs, _⟩ := ti_info h
  show ((typeInfo t).bind _).run P w = _
  rw [run_bind, run_typeInfo hi, hs]
  rfl
theorem run_isAgg (h : (P.ti t).d ≠ .bad) (w : World) : (isAgg t).run P w = .ok (P.ti t).d.agg w := by
  obtain ⟨u, hu, hd⟩ := ti_under h
  show ((underlying t).bind _).run P w = _
  rw [run_bind, run_underlying hu, hd]
  cases u <;> rfl
theorem run_zero (h : (P.ti t).zero ≠ .junk) (w : World) : ∃ z, (zeroValue t).run P w = .ok z w ∧ (P.ti t).zero = ofVal 6 z := by
  unfold Program.ti at h ⊢
  split at h
  · exact absurd rfl h
  · rename_i i hi
    cases hz : i.zero with
    | none => simp only [hz] at h; exact absurd rfl h
    | some z =>
      refine ⟨z, ?_, rfl⟩
      show ((typeInfo t).bind _).run P w = _
      rw [run_bind, run_typeInfo hi]
      simp only [hz]
      rfl
theorem under_struct {fs : List (TypeId × Nat × Bool)} (h : (P.ti t).d = .struct fs) : ∃ gs, P.underlying t = some (.struct gs) ∧ fs = gs.toList.map fun f => (f.type, f.offset, f.name == "_") := by
  obtain ⟨u, hu, hd⟩ := ti_under (P := P) (t := t) (by rw [h]; simp)
  rw [h] at hd
  cases u <;> simp only [descOf, reduceCtorEq, Desc.struct.injEq] at hd
  exact ⟨_, hu, hd⟩
theorem under_slice {x : TypeId} (h : (P.ti t).d = .slice x) : P.underlying t = some (.slice x) := by
  obtain ⟨u, hu, hd⟩ := ti_under (P := P) (t := t) (by rw [h]; simp)
  rw [h] at hd
  cases u <;> simp only [descOf, reduceCtorEq, Desc.slice.injEq] at hd
  subst hd; exact hu
theorem under_map {x y : TypeId} (h : (P.ti t).d = .map x y) : P.underlying t = some (.map x y) := by
  obtain ⟨u, hu, hd⟩ := ti_under (P := P) (t := t) (by rw [h]; simp)
  rw [h] at hd
  cases u <;> simp only [descOf, reduceCtorEq, Desc.map.injEq] at hd
  obtain ⟨rfl, rfl⟩ := hd; exact hu
theorem under_array {n : Nat} {x : TypeId} (h : (P.ti t).d = .array n x) : P.underlying t = some (.array n x) := by
  obtain ⟨u, hu, hd⟩ := ti_under (P := P) (t := t) (by rw [h]; simp)
  rw [h] at hd
  cases u <;> simp only [descOf, reduceCtorEq, Desc.array.injEq] at hd
  obtain ⟨rfl, rfl⟩ := hd; exact hu
theorem under_int {k : IntKind} (h : (P.ti t).d = .int k) : P.underlying t = some (.int k) := by
  obtain ⟨u, hu, hd⟩ := ti_under (P := P) (t := t) (by rw [h]; simp)
  rw [h] at hd
  cases u <;> simp only [descOf, reduceCtorEq, Desc.int.injEq] at hd
  subst hd; exact hu
theorem under_string (h : (P.ti t).d = .string) : P.underlying t = some .string := by
  obtain ⟨u, hu, hd⟩ := ti_under (P := P) (t := t) (by rw [h]; simp)
  rw [h] at hd
  cases u <;> simp only [descOf, reduceCtorEq] at hd
  exact hu
theorem under_bool (h : (P.ti t).d = .bool) : P.underlying t = some .bool := by
  obtain ⟨u, hu, hd⟩ := ti_under (P := P) (t := t) (by rw [h]; simp)
  rw [h] at hd
  cases u <;> simp only [descOf, reduceCtorEq] at hd
  exact hu
theorem under_pointer {x : TypeId} (h : (P.ti t).d = .pointer x) : P.underlying t = some (.pointer x) := by
  obtain ⟨u, hu, hd⟩ := ti_under (P := P) (t := t) (by rw [h]; simp)
  rw [h] at hd
  cases u <;> simp only [descOf, reduceCtorEq, Desc.pointer.injEq] at hd
  subst hd; exact hu
end

/-- The value of type t that begins at a place of some cells. -/
def _root_.Go.Program.part (P : Program) (t : TypeId) (cs : List AV) (off : Nat) : Option AV :=
  match (P.ti t).d with
  | .bad => none
  | d => if d.agg then (if off + (P.ti t).size ≤ cs.length then some (.agg ((cs.drop off).take (P.ti t).size)) else none) else cs[off]?

theorem add_plain (b o n : Nat) : (⟨b, o, none⟩ : Addr).add n = ⟨b, o + n, none⟩ := by
  unfold Addr.add
  split
  · subst_vars; rfl
  · rfl
theorem cell_of_heap {w : World} {b off : Nat} {c : Array Value} {t : TypeId} {fr : Nat × Nat} (h : w.heap[b]? = some (.cells c t fr)) : w.cell? ⟨b, off, none⟩ = c[off]? := by
  simp [World.cell?, h]
theorem run_load {P : Program} {w : World} {b off : Nat} {c : Array Value} {t : TypeId} {fr : Nat × Nat} {v : Value} (h : w.heap[b]? = some (.cells c t fr)) (hv : c[off]? = some v) : (load ⟨b, off, none⟩).run P w = .ok v w := by
  simp only [load, Sem.run, cell_of_heap h, hv]
theorem run_loadCellsFrom {P : Program} {w : World} {b off : Nat} {c : Array Value} {t : TypeId} {fr : Nat × Nat} (h : w.heap[b]? = some (.cells c t fr)) : ∀ (n i : Nat) (acc : Array Value), (0 < n → off + i + n ≤ c.size) →
    (loadCellsFrom ⟨b, off, none⟩ i n acc).run P w = .ok (acc ++ c.extract (off + i) (off + i + n)) w := by
  intro n
  induction n with
  | zero =>
    intro i acc _
    simp only [loadCellsFrom, pure, Sem.run, Nat.add_zero]
    congr 1
    simp
    omega
  | succ n ih =>
    intro i acc hn
    have hn := hn (by omega)
    have hlt : off + i < c.size := by omega
    show ((load _).bind _).run P w = _
    rw [run_bind, add_plain, run_load h (Array.getElem?_eq_getElem hlt)]
    dsimp only
    rw [ih (i + 1) _ (fun _ => by omega)]
    congr 1
    apply Array.ext'
    simp only [Array.toList_append, Array.toList_push, Array.toList_extract, List.append_assoc]
    congr 1
    simp only [List.extract_eq_take_drop]
    rw [show off + (i + 1) = off + i + 1 by omega, show off + i + 1 + n - (off + i + 1) = n by omega, show off + i + (n + 1) - (off + i) = n + 1 by omega]
    rw [List.drop_eq_getElem_cons (i := off + i) (by simpa using hlt)]
    simp
theorem run_loadVar {P : Program} {t : TypeId} {w : World} {b off : Nat} {c : Array Value} {ty : TypeId} {fr : Nat × Nat} {n : Nat} {G : Ghost} {cs : List AV} {o : Nat} {y : AV}
    (h : w.heap[b]? = some (.cells c ty fr)) (hc : Vcells n G cs c o) (hp : P.part t cs off = some y) : ∃ v, (loadVar t ⟨b, o + off, none⟩).run P w = .ok v w ∧ V n G y v := by
  unfold Program.part at hp
  have hb : (P.ti t).d ≠ .bad := by
    intro e
    rw [e] at hp
    cases hp
  have hp' : (if (P.ti t).d.agg then (if off + (P.ti t).size ≤ cs.length then some (AV.agg ((cs.drop off).take (P.ti t).size)) else none) else cs[off]?) = some y := by
    revert hp
    cases hd : (P.ti t).d <;> simp_all
  clear hp
  by_cases ha : (P.ti t).d.agg = true
  · rw [if_pos ha] at hp'
    split at hp'
    · rename_i hle
      cases hp'
      refine ⟨.agg (c.extract (o + off) (o + off + (P.ti t).size)), ?_, ?_⟩
      · show ((isAgg t).bind _).run P w = _
        rw [run_bind, run_isAgg hb]
        dsimp only
        rw [if_pos ha]
        show ((sizeOf t).bind _).run P w = _
        rw [run_bind, run_sizeOf hb]
        dsimp only
        show ((loadCells _ _).bind _).run P w = _
        rw [run_bind, loadCells, run_loadCellsFrom h _ _ _ (fun _ => by have := Vcells_size hc (by omega); omega)]
        simp [pure, Sem.run]
      · simp only [V]
        refine ⟨_, rfl, by
          rw [Array.size_extract, List.length_take, List.length_drop]
          rcases Nat.eq_zero_or_pos (P.ti t).size with h0 | h0
          · rw [h0]; omega
          · have := Vcells_size hc (by omega); omega, Vcells_of fun i x hx => ?_⟩
        rw [List.getElem?_take] at hx
        split at hx
        · rename_i hi
          rw [List.getElem?_drop] at hx
          obtain ⟨v, hv, k⟩ := Vcells_get hc hx
          refine ⟨v, ?_, k⟩
          have := Vcells_size hc (by omega)
          rw [Array.getElem?_extract, if_pos (by omega), ← hv]
          congr 1
          omega
        · cases hx
    · cases hp'
  · rw [if_neg ha] at hp'
    obtain ⟨v, hv, k⟩ := Vcells_get hc hp'
    refine ⟨v, ?_, k⟩
    show ((isAgg t).bind _).run P w = _
    rw [run_bind, run_isAgg hb]
    dsimp only
    rw [if_neg ha]
    exact run_load h hv

variable {P : Program} {o : Oper} {e : Env} {H : Heap}

theorem exec_load_ptr {t : TypeId} {x : Operand} {id off : Nat} {ty : TypeId} {cs : List AV} {y : AV} (ho : o.op = .load t x) (hx : e.ev x = .ptr id off) (hH : H[id]? = some (.cells ty cs)) (hp : P.part t cs off = some y) : Exec P o e H y H :=
  .of_run fun N G a w hR hE => by
    have h := hE.ev x
    rw [hx] at h
    simp only [V] at h
    obtain ⟨hf, c, hw, hs, hc⟩ := hR.obj id _ hH
    obtain ⟨v, hv, k⟩ := run_loadVar (o := 0) hw hc hp
    rw [Nat.zero_add] at hv
    refine ⟨v, ?_, k⟩
    simp only [execOp, ho, h.2.2, Instr.loadAt]
    exact run_value P _ w w v hv
theorem exec_load_eptr {t : TypeId} {x : Operand} {xs : List AV} {i off : Nat} {z y : AV} (ho : o.op = .load t x) (hx : e.ev x = .eptr xs i off) (hz : xs[i]? = some z) (hp : P.part t z.cells off = some y) : Exec P o e H y H :=
  .of_run fun N G a w hR hE => by
    have h := hE.ev x
    rw [hx] at h
    simp only [V] at h
    obtain ⟨b, q, c, ty, fr, size, hv, hs, hr⟩ := h
    have hw := hR.snap _ _ hs
    obtain ⟨hn, hc⟩ := Vrow_get hr hz
    obtain ⟨v, hrun, k⟩ := run_loadVar hw hc hp
    refine ⟨v, ?_, k⟩
    simp only [execOp, ho, hv, Instr.loadAt]
    exact run_value P _ w w v hrun

end Go.Ab
end
section
set_option linter.unusedSimpArgs false
set_option linter.unusedVariables false
namespace Go.Ab
variable {P : Program} {o : Oper} {e : Env} {H : Heap}

/-! ### New variables -/
def Loc.var (b : Nat) : Loc := { block := b, base := 0, gen := 0, size := 1, room := 0, isNil := false, fixed := true }
/-- Is this a value of one cell, or an aggregate of such? -/
def AV.solid (x : AV) : Bool := x.cells.all AV.one
theorem AV.solid_or {x : AV} (h : x.solid = true) : x.one = true ∨ ∃ cs, x = .agg cs := by
  cases x <;> simp_all [AV.solid, AV.cells]
theorem heap_push {w : World} (x : Obj) (b : Nat) (h : b < w.heap.size) : (w.heap.push x)[b]? = w.heap[b]? := by
  rw [Array.getElem?_push, if_neg (by omega)]

theorem Rel.newVar {G : Ghost} {w : World} (hR : Rel G H w) {y : AV} {v : Value} (hv : V H.length G y v) (hy : y.solid = true) (t : TypeId) :
    Rel (G.put H.length (Loc.var w.heap.size)) (H ++ [AObj.cells t y.cells]) { w with heap := w.heap.push (Obj.cells v.cells t) } ∧ Step H.length (H ++ [AObj.cells t y.cells]).length G w (G.put H.length (Loc.var w.heap.size)) { w with heap := w.heap.push (Obj.cells v.cells t) } := by
  obtain ⟨h1, h2⟩ := V_cells hv (AV.solid_or hy)
  refine hR.push (w' := { w with heap := w.heap.push (Obj.cells v.cells t) }) (.cells t y.cells) (Loc.var w.heap.size) (fun _ => ⟨rfl, by simp⟩) (by simp) (fun b hb => heap_push _ _ hb) ⟨rfl, rfl, rfl⟩ ?_
  exact ⟨rfl, v.cells, by simp [Loc.var], by rw [h1, AV.nc_eq], Vcells.mono (Ext.push G _ _) _ _ _ h2⟩
theorem V_newVar {n : Nat} {G : Ghost} {b : Nat} : V (n + 1) (G.put n (Loc.var b)) (.ptr n 0) (.pointer (some ⟨b, 0, none⟩)) := by
  simp only [V]
  exact ⟨by omega, by simp [Loc.var], by simp [Loc.var]⟩

theorem exec_box {t : TypeId} {x : Operand} {y : AV} (ho : o.op = .box t x) (hx : e.ev x = y) (hy : y.solid = true) : Exec P o e H (.ptr H.length 0) (H ++ [.cells t y.cells]) := by
  intro N G a w hR hE
  have h := hE.ev x
  rw [hx] at h
  obtain ⟨r1, r2⟩ := hR.newVar h hy t
  refine ⟨_, .pointer (some ⟨w.heap.size, 0, none⟩), _, _, ?_, .inl rfl, ?_, r1, r2⟩
  · simp only [execOp, ho]
    refine run_value P _ w _ _ ?_
    simp only [Instr.box, newVar, newRow, newObj, pure, bind, Sem.bind, Sem.run]
  · simpa using V_newVar
theorem exec_alloc {t : TypeId} (ho : o.op = .alloc t) (hz : (P.ti t).zero.solid = true) : Exec P o e H (.ptr H.length 0) (H ++ [.cells t (P.ti t).zero.cells]) := by
  intro N G a w hR hE
  obtain ⟨z, hz1, hz2⟩ := run_zero (P := P) (t := t) (by intro k; rw [k] at hz; cases hz) w
  have h : V H.length G (P.ti t).zero z := by rw [hz2]; exact V_ofVal _ _ _ _
  obtain ⟨r1, r2⟩ := hR.newVar h hz t
  refine ⟨_, .pointer (some ⟨w.heap.size, 0, none⟩), _, _, ?_, .inl rfl, ?_, r1, r2⟩
  · simp only [execOp, ho]
    refine run_value P _ w _ _ ?_
    show ((zeroValue t).bind _).run P w = _
    rw [run_bind, hz1]
    simp only [newVar, newRow, newObj, pure, bind, Sem.bind, Sem.run]
  · simpa using V_newVar

/-! ### A field's place, a field -/
/-- A pointer further on inside its variable. -/
def AV.shift : AV → Nat → AV
  | .ptr id off, k => .ptr id (off + k)
  | .eptr xs i off, k => .eptr xs i (off + k)
  | .vptr id g i off, k => .vptr id g i (off + k)
  | _, _ => .junk
def AV.isPtr : AV → Bool
  | .ptr .. | .eptr .. | .vptr .. => true
  | _ => false
theorem exec_fieldAddr {s : TypeId} {x : Operand} {f : Nat} {y : AV} {fs : List (TypeId × Nat × Bool)} {ft off : Nat} {u : Bool} (ho : o.op = .fieldAddr s x f) (hx : e.ev x = y) (hy : y.isPtr = true)
    (hs : (P.ti s).d = .struct fs) (hf : fs[f]? = some (ft, off, u)) (hb : (P.ti ft).d ≠ .bad) (hz : (P.ti ft).size ≠ 0) (hcur : ∀ id g i k, y = .vptr id g i k → ∃ ty sz xs, H[id]? = some (.row ty g sz xs)) : Exec P o e H (y.shift off) H :=
  .of_run fun N G a w hR hE => by
    have h := hE.ev x
    rw [hx] at h
    obtain ⟨gs, hgs, rfl⟩ := under_struct hs
    rw [List.getElem?_map, Option.map_eq_some_iff] at hf
    obtain ⟨fd, hfd, hfe⟩ := hf
    simp only [Prod.mk.injEq] at hfe
    obtain ⟨rfl, rfl, _⟩ := hfe
    have hfd' : gs[f]? = some fd := by simpa using hfd
    have key : ∀ b q, a.eval x = .pointer (some ⟨b, q, none⟩) → (execOp a.eval o).run P w = .ok (.value (.pointer (some ⟨b, q + fd.offset, none⟩))) w := by
      intro b q hq
      simp only [execOp, ho, hq]
      refine run_value P _ w w _ ?_
      show ((underlying s).bind _).run P w = _
      rw [run_bind, run_underlying hgs]
      dsimp only
      rw [hfd']
      dsimp only
      show ((Instr.sureAddr _).bind _).run P w = _
      simp only [Instr.sureAddr, pure, Sem.bind]
      show ((fieldPlace _ fd).bind _).run P w = _
      rw [run_bind]
      have : (fieldPlace ⟨b, q, none⟩ fd).run P w = .ok ⟨b, q + fd.offset, none⟩ w := by
        show ((sizeOf fd.type).bind _).run P w = _
        rw [run_bind, run_sizeOf hb]
        dsimp only
        rw [if_neg hz, add_plain]
        rfl
      rw [this]
      rfl
    cases y <;> simp only [AV.isPtr, Bool.false_eq_true] at hy
    · simp only [V] at h
      refine ⟨_, key _ _ h.2.2, ?_⟩
      simp only [AV.shift, V]
      exact ⟨h.1, h.2.1, trivial⟩
    · simp only [V] at h
      obtain ⟨b, q, c, ty, fr, size, hv, hs, hr⟩ := h
      refine ⟨_, key _ _ hv, ?_⟩
      simp only [AV.shift, V]
      exact ⟨b, q, c, ty, fr, size, by simp only [Nat.add_assoc], hs, hr⟩
    · rename_i id g i k
      simp only [V] at h
      obtain ⟨hi, hg, p, hv, hp⟩ := h
      obtain ⟨ty, sz, xs, hH⟩ := hcur id g i k rfl
      have hg' := (hR.obj id _ hH).1
      rw [hp hg'.symm] at hv
      refine ⟨_, key _ _ hv, ?_⟩
      simp only [AV.shift, V]
      exact ⟨hi, hg, _, rfl, fun _ => by simp only [Nat.add_assoc]⟩
theorem V_part {n : Nat} {G : Ghost} {t : TypeId} {cs : List AV} {c : Array Value} {off : Nat} {y : AV} (hc : Vcells n G cs c 0) (hs : c.size = cs.length) (hp : P.part t cs off = some y) (w : World) : ∃ v, (part t c off).run P w = .ok v w ∧ V n G y v := by
  unfold Program.part at hp
  have hb : (P.ti t).d ≠ .bad := by
    intro e
    rw [e] at hp
    cases hp
  have hp' : (if (P.ti t).d.agg then (if off + (P.ti t).size ≤ cs.length then some (AV.agg ((cs.drop off).take (P.ti t).size)) else none) else cs[off]?) = some y := by
    revert hp
    cases hd : (P.ti t).d <;> simp_all
  clear hp
  by_cases ha : (P.ti t).d.agg = true
  · rw [if_pos ha] at hp'
    split at hp'
    · rename_i hle
      cases hp'
      refine ⟨.agg (c.extract off (off + (P.ti t).size)), ?_, ?_⟩
      · show ((isAgg t).bind _).run P w = _
        rw [run_bind, run_isAgg hb]
        dsimp only
        rw [if_pos ha]
        show ((sizeOf t).bind _).run P w = _
        rw [run_bind, run_sizeOf hb]
        rfl
      · simp only [V]
        refine ⟨_, rfl, by rw [Array.size_extract, List.length_take, List.length_drop]; omega, Vcells_of fun i x hx => ?_⟩
        rw [List.getElem?_take] at hx
        split at hx
        · rename_i hi
          rw [List.getElem?_drop] at hx
          obtain ⟨v, hv, k⟩ := Vcells_get hc hx
          refine ⟨v, ?_, k⟩
          rw [Array.getElem?_extract, if_pos (by omega), ← hv]
          congr 1
          omega
        · cases hx
    · cases hp'
  · rw [if_neg ha] at hp'
    obtain ⟨v, hv, k⟩ := Vcells_get hc hp'
    rw [Nat.zero_add] at hv
    refine ⟨v, ?_, k⟩
    show ((isAgg t).bind _).run P w = _
    rw [run_bind, run_isAgg hb]
    dsimp only
    rw [if_neg ha, hv]
    rfl
theorem exec_field {s : TypeId} {x : Operand} {f : Nat} {cs : List AV} {y : AV} {fs : List (TypeId × Nat × Bool)} {ft off : Nat} {u : Bool} (ho : o.op = .field s x f) (hx : e.ev x = .agg cs)
    (hs : (P.ti s).d = .struct fs) (hf : fs[f]? = some (ft, off, u)) (hp : P.part ft cs off = some y) : Exec P o e H y H :=
  .of_run fun N G a w hR hE => by
    have h := hE.ev x
    rw [hx] at h
    simp only [V] at h
    obtain ⟨vs, hv, hz, hc⟩ := h
    obtain ⟨gs, hgs, rfl⟩ := under_struct hs
    rw [List.getElem?_map, Option.map_eq_some_iff] at hf
    obtain ⟨fd, hfd, hfe⟩ := hf
    simp only [Prod.mk.injEq] at hfe
    obtain ⟨rfl, rfl, _⟩ := hfe
    have hfd' : gs[f]? = some fd := by simpa using hfd
    obtain ⟨v, hr, k⟩ := V_part hc hz hp w
    refine ⟨v, ?_, k⟩
    simp only [execOp, ho, hv]
    refine run_value P _ w w _ ?_
    show ((underlying s).bind _).run P w = _
    rw [run_bind, run_underlying hgs]
    dsimp only
    rw [hfd']
    dsimp only
    simp only [asAgg, pure, bind, Sem.bind]
    exact hr

/-! ### An element's place, an element -/
theorem exec_indexAddr_lst {t : TypeId} {x ix : Operand} {xs : List AV} {k : IntKind} {i : Int} {el : TypeId} {z : AV} (ho : o.op = .indexAddr t x ix) (hx : e.ev x = .lst xs) (hi : e.ev ix = .int k i) (h0 : 0 ≤ i) (hz : xs[i.toNat]? = some z)
    (ht : (P.ti t).d = .slice el) (hel : (P.ti el).d ≠ .bad) (hsz : z.nc = (P.ti el).size) : Exec P o e H (.eptr xs i.toNat 0) H :=
  .of_run fun N G a w hR hE => by
    have h := hE.ev x
    have h' := hE.ev ix
    rw [hx] at h
    rw [hi] at h'
    simp only [V] at h h'
    obtain ⟨b, q, cap, c, ty, fr, size, hv, hcap, hs, hr⟩ := h.resolve_left (by rintro ⟨rfl, -⟩; simp at hz)
    obtain ⟨hn, hc⟩ := Vrow_get hr hz
    have hlt : i.toNat < xs.length := by rw [List.getElem?_eq_some_iff] at hz; exact hz.1
    refine ⟨.pointer (some ⟨b, q + i.toNat * size + 0, none⟩), ?_, ?_⟩
    · simp only [execOp, ho, hv, h']
      refine run_value P _ w w _ ?_
      show ((asIntOf _).bind _).run P w = _
      simp only [asIntOf, pure, Sem.bind]
      show ((underlying t).bind _ : Sem _).run P w = _
      rw [run_bind, run_underlying (under_slice ht)]
      dsimp only
      simp only [pure, Sem.bind, bind]
      rw [run_bind, run_underlying (under_slice ht)]
      dsimp only
      rw [if_pos ⟨h0, by omega⟩]
      show ((sizeOf el).bind _).run P w = _
      rw [run_bind, run_sizeOf hel]
      simp only [add_plain, Sem.run, ← hsz, hn, Nat.add_zero]
    · simp only [V]
      exact ⟨b, q, c, ty, fr, size, rfl, hs, hr⟩
theorem exec_indexAddr_view {t : TypeId} {x ix : Operand} {id g sz off len : Nat} {xs : List AV} {k : IntKind} {i : Int} {el : TypeId} {z : AV} (ho : o.op = .indexAddr t x ix) (hx : e.ev x = .view id g off len) (hi : e.ev ix = .int k i) (h0 : 0 ≤ i) (h1 : i < len)
    {ty : TypeId} (hH : H[id]? = some (.row ty g sz xs)) (hz : xs[off + i.toNat]? = some z) (ht : (P.ti t).d = .slice el) (hel : (P.ti el).d ≠ .bad) (hsz : z.nc = (P.ti el).size) : Exec P o e H (.vptr id g (off + i.toNat) 0) H :=
  .of_run fun N G a w hR hE => by
    have h := hE.ev x
    have h' := hE.ev ix
    rw [hx] at h
    rw [hi] at h'
    simp only [V] at h h'
    obtain ⟨hid, hg, ad, cap, hv, hlen, hcur⟩ := h
    obtain ⟨hg', hfx, hsz', hrow⟩ := hR.obj id _ hH
    rcases hcur hg'.symm with ⟨_, _, h2, _⟩ | ⟨hnil, had, hroom⟩
    · omega
    rcases hrow with ⟨h2, _⟩ | ⟨_, c, hw, hcs, hroom', hr⟩
    · rw [h2] at hnil; cases hnil
    obtain ⟨hn, hc⟩ := Vrow_get hr hz
    refine ⟨.pointer (some ⟨(G.loc id).block, (G.loc id).base + (off + i.toNat) * (G.loc id).size + 0, none⟩), ?_, ?_⟩
    · simp only [execOp, ho, hv, h', had]
      refine run_value P _ w w _ ?_
      show ((asIntOf _).bind _).run P w = _
      simp only [asIntOf, pure, Sem.bind]
      show ((underlying t).bind _ : Sem _).run P w = _
      rw [run_bind, run_underlying (under_slice ht)]
      dsimp only
      simp only [pure, Sem.bind, bind]
      rw [run_bind, run_underlying (under_slice ht)]
      dsimp only
      rw [if_pos ⟨h0, h1⟩]
      show ((sizeOf el).bind _).run P w = _
      rw [run_bind, run_sizeOf hel]
      simp only [add_plain, Sem.run, ← hsz, hn, Nat.add_zero, Nat.add_mul, Nat.add_assoc]
    · simp only [V]
      exact ⟨hid, hg, _, rfl, fun _ => rfl⟩
theorem exec_indexAddr_arr {t : TypeId} {x ix : Operand} {id off n : Nat} {k : IntKind} {i : Int} {el : TypeId} (ho : o.op = .indexAddr t x ix) (hx : e.ev x = .ptr id off) (hi : e.ev ix = .int k i) (h0 : 0 ≤ i) (h1 : i < n)
    (ht : (P.ti t).d = .array n el) (hel : (P.ti el).d ≠ .bad) : Exec P o e H (.ptr id (off + i.toNat * (P.ti el).size)) H :=
  .of_run fun N G a w hR hE => by
    have h := hE.ev x
    have h' := hE.ev ix
    rw [hx] at h
    rw [hi] at h'
    simp only [V] at h h'
    refine ⟨.pointer (some ⟨(G.loc id).block, off + i.toNat * (P.ti el).size, none⟩), ?_, by simp only [V, and_true]; exact ⟨h.1, h.2.1⟩⟩
    simp only [execOp, ho, h.2.2, h']
    refine run_value P _ w w _ ?_
    show ((asIntOf _).bind _).run P w = _
    simp only [asIntOf, pure, Sem.bind]
    show ((underlying t).bind _ : Sem _).run P w = _
    rw [run_bind, run_underlying (under_array ht)]
    dsimp only
    show ((Instr.sureAddr _).bind _ : Sem _).run P w = _
    rw [run_bind]
    have hs : (Instr.sureAddr (.pointer (some ⟨(G.loc id).block, off, none⟩))).run P w = .ok ⟨(G.loc id).block, off, none⟩ w := rfl
    rw [hs]
    dsimp only
    simp only [pure, Sem.bind, bind]
    rw [run_bind, run_underlying (under_array ht)]
    dsimp only
    rw [if_pos ⟨h0, by exact_mod_cast h1⟩]
    show ((sizeOf el).bind _).run P w = _
    rw [run_bind, run_sizeOf hel]
    simp only [add_plain, Sem.run]
theorem get!_eq (s : ByteArray) (i : Nat) (h : i < s.size) : s.get! i = s[i]'h := by
  cases s with
  | mk d =>
    simp only [ByteArray.get!, getElem, ByteArray.get]
    exact getElem!_pos d i h
theorem exec_index_str {t : TypeId} {x ix : Operand} {s : List UInt8} {b : UInt8} {k : IntKind} {i : Int} (ho : o.op = .index t x ix) (hx : e.ev x = .str s) (hi : e.ev ix = .int k i) (h0 : 0 ≤ i) (hb : s[i.toNat]? = some b)
    (ht : (P.ti t).d = .string) : Exec P o e H (.int .u8 b.toNat) H :=
  .of_run fun N G a w hR hE => by
    have h := hE.ev x
    have h' := hE.ev ix
    rw [hx] at h
    rw [hi] at h'
    simp only [V] at h h'
    refine ⟨.int .u8 b.toNat, ?_, by simp only [V]⟩
    simp only [execOp, ho, h, h']
    refine run_value P _ w w _ ?_
    show ((asIntOf _).bind _).run P w = _
    simp only [asIntOf, pure, Sem.bind]
    show ((underlying t).bind _ : Sem _).run P w = _
    rw [run_bind, run_underlying (under_string ht)]
    dsimp only
    rw [if_pos h0]
    rw [ba_get?, hb]
    simp only [Sem.run]
theorem exec_load_vptr {t : TypeId} {x : Operand} {id g sz i off : Nat} {xs : List AV} {z y : AV} (ho : o.op = .load t x) (hx : e.ev x = .vptr id g i off) {ty : TypeId} (hH : H[id]? = some (.row ty g sz xs)) (hz : xs[i]? = some z) (hp : P.part t z.cells off = some y) : Exec P o e H y H :=
  .of_run fun N G a w hR hE => by
    have h := hE.ev x
    rw [hx] at h
    simp only [V] at h
    obtain ⟨hid, hg, p, hv, hcur⟩ := h
    obtain ⟨hg', hfx, hsz', hrow⟩ := hR.obj id _ hH
    rcases hrow with ⟨h2, rfl⟩ | ⟨_, c, hw, hcs, hroom', hr⟩
    · simp at hz
    obtain ⟨hn, hc⟩ := Vrow_get hr hz
    rw [hcur hg'.symm] at hv
    obtain ⟨v, hrun, k⟩ := run_loadVar hw hc hp
    refine ⟨v, ?_, k⟩
    simp only [execOp, ho, hv, Instr.loadAt]
    exact run_value P _ w w v hrun

end Go.Ab
end
section
set_option linter.unusedSimpArgs false
set_option linter.unusedVariables false
namespace Go.Ab
variable {P : Program} {o : Oper} {e : Env} {H : Heap}

/-- The value of one cell. -/
def isOne : Value → Bool
  | .agg _ | .tuple _ => false
  | _ => true
/-- Cells written one by one. -/
def wr (c : Array Value) : Nat → List Value → Array Value
  | _, [] => c
  | off, v :: vs => wr (c.setIfInBounds off v) (off + 1) vs
theorem wr_size (c : Array Value) (off : Nat) (vs : List Value) : (wr c off vs).size = c.size := by
  induction vs generalizing c off with
  | nil => rfl
  | cons v vs ih => simp only [wr, ih, Array.size_setIfInBounds]
theorem wr_get (c : Array Value) (off : Nat) (vs : List Value) (h : off + vs.length ≤ c.size) (i : Nat) : (wr c off vs)[i]? = if off ≤ i ∧ i < off + vs.length then vs[i - off]? else c[i]? := by
  induction vs generalizing c off with
  | nil => simp only [wr, List.length_nil]; rw [if_neg (by omega)]
  | cons v vs ih =>
    simp only [List.length_cons] at h
    simp only [wr, List.length_cons]
    rw [ih _ _ (by simp; omega)]
    by_cases h1 : off + 1 ≤ i ∧ i < off + 1 + vs.length
    · rw [if_pos h1, if_pos (by omega), show i - off = (i - (off + 1)) + 1 by omega, List.getElem?_cons_succ]
    · rw [if_neg h1, Array.getElem?_setIfInBounds]
      by_cases h2 : off = i
      · subst h2
        rw [if_pos rfl, if_pos (by omega), if_pos (by omega)]
        simp
      · rw [if_neg h2, if_neg (by omega)]
theorem run_storeCells {P : Program} {b : Nat} {t : TypeId} (off : Nat) : ∀ (vs : List Value) (i : Nat) (w : World) (c : Array Value), w.heap[b]? = some (.cells c t (0, 0)) → off + i + vs.length ≤ c.size → (∀ v ∈ vs, isOne v = true) →
    ∃ w', (storeCells ⟨b, off, none⟩ vs i).run P w = .ok () w' ∧ w'.heap[b]? = some (.cells (wr c (off + i) vs) t (0, 0)) ∧ (∀ b', b' ≠ b → w'.heap[b']? = w.heap[b']?) ∧ w'.heap.size = w.heap.size ∧ w'.os = w.os ∧ w'.tape = w.tape ∧ w'.output = w.output := by
  intro vs
  induction vs with
  | nil => intro i w c hw _ _; exact ⟨w, rfl, by simpa only [wr] using hw, fun _ _ => rfl, rfl, rfl, rfl, rfl⟩
  | cons v vs ih =>
    intro i w c hw hs hone
    simp only [List.length_cons] at hs
    have hlt : off + i < c.size := by omega
    have hrun : (store ⟨b, off + i, none⟩ v).run P w = .ok () (w.setCell ⟨b, off + i, none⟩ v) := by
      have h1 := hone v (List.mem_cons_self)
      have h2 : w.cell? ⟨b, off + i, none⟩ = some c[off + i] := by rw [cell_of_heap hw, Array.getElem?_eq_getElem hlt]
      have h3 : w.frozen? ⟨b, off + i, none⟩ = false := by simp [World.frozen?, hw]
      cases v <;> simp only [isOne, Bool.false_eq_true] at h1 <;> simp only [store, Sem.run, h2, h3] <;> rfl
    have hh : (w.setCell ⟨b, off + i, none⟩ v).heap = w.heap.modify b fun
      | .cells c elem frozen => .cells (c.setIfInBounds (off + i) v) elem frozen
      | o => o := rfl
    obtain ⟨w', k1, k2, k3, k4, k5⟩ := ih (i + 1) (w.setCell ⟨b, off + i, none⟩ v) (c.setIfInBounds (off + i) v) (by rw [hh, Array.getElem?_modify, if_pos rfl, hw]; rfl) (by simp; omega) (fun x hx => hone x (List.mem_cons_of_mem _ hx))
    refine ⟨w', ?_, ?_, fun b' hb' => ?_, ?_, k5⟩
    · show ((store _ v).bind _).run P w = _
      rw [add_plain, run_bind, hrun]
      exact k1
    · rw [k2]
      simp only [wr, Nat.add_assoc]
    · rw [k3 b' hb', hh, Array.getElem?_modify, if_neg (fun e => hb' e.symm)]
    · rw [k4, hh]; simp

theorem oneCell_of {n : Nat} {G : Ghost} {x : AV} {v : Value} (h : V n G x v) (hx : x.one = true) : isOne v = true := by
  cases x <;> simp only [AV.one, Bool.false_eq_true] at hx <;> simp only [V] at h
  all_goals first
    | (subst h; rfl)
    | (rcases h with ⟨_, e⟩ | ⟨_, _, _, _, _, _, _, e, _⟩ <;> subst e <;> rfl)
    | (obtain ⟨_, _, _, _, e, _⟩ := h; subst e; rfl)
    | (obtain ⟨_, _, _, _, _, _, e, _⟩ := h; subst e; rfl)
    | (obtain ⟨_, _, _, e, _⟩ := h; subst e; rfl)
    | (obtain ⟨_, _, e⟩ := h; subst e; rfl)
    | (obtain ⟨_, _, e, _⟩ := h; subst e; rfl)
    | (obtain ⟨_, e, _⟩ := h; subst e; rfl)
    | (obtain ⟨_, e⟩ := h; subst e; rfl)

/-- Some of the cells put in the place of others. -/
def putCells (cs : List AV) (off : Nat) (ys : List AV) : List AV := cs.take off ++ ys ++ cs.drop (off + ys.length)
theorem putCells_length {cs : List AV} {off : Nat} {ys : List AV} (h : off + ys.length ≤ cs.length) : (putCells cs off ys).length = cs.length := by
  simp only [putCells, List.length_append, List.length_take, List.length_drop]; omega
theorem putCells_get {cs : List AV} {off : Nat} {ys : List AV} (h : off + ys.length ≤ cs.length) (i : Nat) : (putCells cs off ys)[i]? = if off ≤ i ∧ i < off + ys.length then ys[i - off]? else cs[i]? := by
  unfold putCells
  have ht : (cs.take off).length = off := by rw [List.length_take]; omega
  by_cases h1 : i < off
  · rw [if_neg (by omega), List.append_assoc, List.getElem?_append_left (by omega), List.getElem?_take_of_lt h1]
  · by_cases h2 : i < off + ys.length
    · rw [if_pos (by omega), List.append_assoc, List.getElem?_append_right (by omega), ht, List.getElem?_append_left (by omega)]
    · rw [if_neg (by omega), List.getElem?_append_right (by rw [List.length_append]; omega), List.length_append, ht, List.getElem?_drop]
      congr 1
      omega
theorem Vcells_put {n : Nat} {G : Ghost} {cs ys : List AV} {c : Array Value} {vs : List Value} {q off : Nat} (hc : Vcells n G cs c q) (hy : Vcells n G ys vs.toArray 0) (hl : vs.length = ys.length) (h : off + ys.length ≤ cs.length) (hs : q + off + vs.length ≤ c.size) :
    Vcells n G (putCells cs off ys) (wr c (q + off) vs) q := Vcells_of fun i x hx => by
  rw [putCells_get h] at hx
  rw [wr_get _ _ _ hs]
  split at hx
  · rename_i hi
    obtain ⟨v, hv, k⟩ := Vcells_get hy hx
    refine ⟨v, ?_, k⟩
    rw [if_pos (by omega), ← hv]
    simp only [Nat.zero_add]
    rw [show q + i - (q + off) = i - off by omega]
    simp
  · rename_i hi
    obtain ⟨v, hv, k⟩ := Vcells_get hc hx
    refine ⟨v, ?_, k⟩
    rw [if_neg (by omega), hv]
theorem Vcells_toList {n : Nat} {G : Ghost} {l : List AV} {c : Array Value} : Vcells n G l c.toList.toArray 0 ↔ Vcells n G l c 0 := by simp

theorem AV.solid_one {x : AV} (h : x.solid = true) : ∀ y ∈ x.cells, y.one = true := by
  simpa [AV.solid] using h
theorem cells_oneCell {n : Nat} {G : Ghost} {l : List AV} {c : Array Value} (h : Vcells n G l c 0) (hs : c.size = l.length) (hone : ∀ y ∈ l, y.one = true) : ∀ v ∈ c.toList, isOne v = true := by
  intro v hv
  obtain ⟨i, hi⟩ := List.getElem?_of_mem hv
  have hlt : i < l.length := by
    rw [List.getElem?_eq_some_iff] at hi
    obtain ⟨h1, _⟩ := hi
    simp at h1
    omega
  obtain ⟨u, hu, k⟩ := Vcells_get h (List.getElem?_eq_getElem hlt)
  rw [Nat.zero_add] at hu
  have : u = v := by
    have e : c[i]? = some v := by simpa using hi
    rw [e] at hu
    exact (Option.some.inj hu).symm
  subst this
  exact oneCell_of k (hone _ (List.getElem_mem hlt))

theorem run_storeVar {t : TypeId} {w : World} {b off : Nat} {c : Array Value} {ty : TypeId} {v : Value} (hb : (P.ti t).d ≠ .bad) (hw : w.heap[b]? = some (.cells c ty (0, 0))) (hs : v.cells.size = (P.ti t).size) (hfit : off + v.cells.size ≤ c.size) (hone : ∀ x ∈ v.cells.toList, isOne x = true) :
    ∃ w', (storeVar t ⟨b, off, none⟩ v).run P w = .ok () w' ∧ w'.heap[b]? = some (.cells (wr c off v.cells.toList) ty (0, 0)) ∧ (∀ b', b' ≠ b → w'.heap[b']? = w.heap[b']?) ∧ w'.heap.size = w.heap.size ∧ w'.os = w.os ∧ w'.tape = w.tape ∧ w'.output = w.output := by
  obtain ⟨w', k1, k2⟩ := run_storeCells (P := P) (t := ty) off v.cells.toList 0 w c hw (by simpa using hfit) hone
  refine ⟨w', ?_, by simpa using k2⟩
  show ((sizeOf t).bind _).run P w = _
  rw [run_bind, run_sizeOf hb]
  dsimp only
  rw [if_neg (by omega)]
  exact k1

theorem Ghost.put_self (G : Ghost) (id : Nat) : G.put id (G.loc id) = G := by
  cases G with
  | mk s l b =>
    simp only [Ghost.put, Ghost.mk.injEq, true_and, and_true]
    funext j
    split
    · rename_i e; rw [e]
    · rfl

/-- A store into a variable of one's own. -/
theorem exec_store_ptr {t : TypeId} {x z : Operand} {id off : Nat} {cs : List AV} {y : AV} (ho : o.op = .store t x z) (hx : e.ev x = .ptr id off) (hz : e.ev z = y) {ty : TypeId} (hH : H[id]? = some (.cells ty cs)) (hy : y.solid = true) (hb : (P.ti t).d ≠ .bad) (hs : y.nc = (P.ti t).size) (hfit : off + y.nc ≤ cs.length) :
    Exec P o e H (.tup []) (H.set id (.cells ty (putCells cs off y.cells))) := by
  intro N G a w hR hE
  have h := hE.ev x
  have h' := hE.ev z
  rw [hx] at h
  rw [hz] at h'
  simp only [V] at h
  obtain ⟨hid, hf, hv⟩ := h
  obtain ⟨h1, h2⟩ := V_cells h' (AV.solid_or hy)
  obtain ⟨hfx, c, hw, hcs, hc⟩ := hR.obj id _ hH
  obtain ⟨w', k1, k2, k3, k4, k5, k6, k7⟩ := run_storeVar (P := P) (off := off) hb hw (by omega) (by omega) (cells_oneCell h2 (by rw [h1, AV.nc_eq]) (AV.solid_one hy))
  have hRp := hR.put (w' := w') id _ (.cells ty (putCells cs off y.cells)) (G.loc id) hH (by rw [Ghost.put_self]; exact Ext.refl _ _) (by omega) (fun _ => .inl ⟨rfl, rfl⟩) (fun b _ hne => k3 b (hne rfl)) ⟨k5, k6, k7⟩
    (by
      rw [Ghost.put_self]
      refine ⟨hfx, _, k2, by rw [wr_size, hcs, putCells_length (by rw [← AV.nc_eq]; exact hfit)], ?_⟩
      have := Vcells_put (off := off) hc (vs := (a.eval z).cells.toList) (by simpa using h2) (by simp [h1, AV.nc_eq]) (by rw [← AV.nc_eq]; exact hfit) (by simp; omega)
      rwa [Nat.zero_add] at this)
  rw [Ghost.put_self] at hRp
  refine ⟨.skip, undef, w', G, ?_, .inr ⟨rfl, rfl⟩, ?_, hRp⟩
  · simp only [execOp, ho, hv]
    exact run_unit P _ w w' k1
  · simp only [V]; exact ⟨#[], rfl, rfl, by simp [Vcells]⟩

theorem Vrow_set {n : Nat} {G : Ghost} {size : Nat} {xs : List AV} {c : Array Value} {q i off : Nat} {z : AV} {ys : List AV} {vs : List Value} (hr : Vrow n G size xs c q) (hz : xs[i]? = some z) (hy : Vcells n G ys vs.toArray 0) (hl : vs.length = ys.length) (hfit : off + ys.length ≤ size)
    (hroom : q + xs.length * size ≤ c.size) {z' : AV} (hz' : z'.cells = putCells z.cells off ys) : Vrow n G size (xs.set i z') (wr c (q + i * size + off) vs) q := by
  have hlt : i < xs.length := by rw [List.getElem?_eq_some_iff] at hz; exact hz.1
  have hin : (i + 1) * size ≤ xs.length * size := Nat.mul_le_mul_right _ hlt
  rw [Nat.succ_mul] at hin
  have hbound : q + i * size + off + vs.length ≤ c.size := by omega
  refine Vrow_of fun j x hx => ?_
  rw [List.getElem?_set] at hx
  split at hx
  · rename_i e
    subst e
    cases hx
    obtain ⟨hn, hc⟩ := Vrow_get hr hz
    have hzl : z.cells.length = size := by rw [← AV.nc_eq]; exact hn
    refine ⟨by rw [AV.nc_eq, hz', putCells_length (by omega), hzl], ?_⟩
    rw [hz']
    exact Vcells_put hc hy hl (by omega) hbound
  · rename_i hne
    obtain ⟨hn, hc⟩ := Vrow_get hr hx
    refine ⟨hn, Vcells_of fun k y hy' => ?_⟩
    obtain ⟨v, hv, kk⟩ := Vcells_get hc hy'
    refine ⟨v, ?_, kk⟩
    have hk : k < size := by
      rw [← hn, AV.nc_eq]
      rw [List.getElem?_eq_some_iff] at hy'
      exact hy'.1
    rw [wr_get _ _ _ hbound, if_neg, hv]
    rintro ⟨h1, h2⟩
    rcases Nat.lt_or_gt_of_ne hne with hlt' | hlt'
    · have : (i + 1) * size ≤ j * size := Nat.mul_le_mul_right _ hlt'
      rw [Nat.succ_mul] at this
      omega
    · have : (j + 1) * size ≤ i * size := Nat.mul_le_mul_right _ hlt'
      rw [Nat.succ_mul] at this
      omega

/-- A value with some of its cells turned. -/
def AV.putAt (z : AV) (off : Nat) (ys : List AV) : AV :=
  match z with
  | .agg cs => .agg (putCells cs off ys)
  | z => (putCells [z] off ys).headD .junk
theorem AV.putAt_cells {z : AV} {off : Nat} {ys : List AV} (h : off + ys.length ≤ z.nc) (hone : ∀ y ∈ ys, y.one = true) : (z.putAt off ys).cells = putCells z.cells off ys := by
  have gen : ∀ z : AV, z.cells = [z] → z.nc = 1 → off + ys.length ≤ z.nc → ((putCells [z] off ys).headD .junk).cells = putCells [z] off ys := by
    intro z h1 h2 h3
    rw [h2] at h3
    match off, ys, h3, hone with
    | 0, [], _, _ => simp [putCells, h1]
    | 1, [], _, _ => simp [putCells, h1]
    | 0, [y], _, hone =>
      have := hone y (by simp)
      simp only [putCells, List.take_zero, List.nil_append, List.length_cons, List.length_nil, Nat.zero_add, List.drop_succ_cons, List.drop_nil, List.append_nil, List.headD_cons]
      cases y <;> simp_all [AV.one, AV.cells]
    | 0, _ :: _ :: _, h, _ => simp at h
    | 1, _ :: _, h, _ => simp at h; omega
    | n + 2, _, h, _ => omega
  cases z <;> first | rfl | exact gen _ rfl rfl h

/-- A store into a row of one's own. -/
theorem exec_store_vptr {t : TypeId} {x z : Operand} {id g sz i off : Nat} {xs : List AV} {y u : AV} (ho : o.op = .store t x z) (hx : e.ev x = .vptr id g i off) (hz : e.ev z = y) {ty : TypeId} (hH : H[id]? = some (.row ty g sz xs)) (hu : xs[i]? = some u) (hy : y.solid = true) (hb : (P.ti t).d ≠ .bad) (hs : y.nc = (P.ti t).size) (hfit : off + y.nc ≤ u.nc) :
    Exec P o e H (.tup []) (H.set id (.row ty g sz (xs.set i (u.putAt off y.cells)))) := by
  intro N G a w hR hE
  have h := hE.ev x
  have h' := hE.ev z
  rw [hx] at h
  rw [hz] at h'
  simp only [V] at h
  obtain ⟨hid, hg, p, hv, hcur⟩ := h
  obtain ⟨h1, h2⟩ := V_cells h' (AV.solid_or hy)
  obtain ⟨hg', hfx, hsz', hrow⟩ := hR.obj id _ hH
  rcases hrow with ⟨_, rfl⟩ | ⟨hnil, c, hw, hcs, hroom, hr⟩
  · simp at hu
  rw [hcur hg'.symm] at hv
  obtain ⟨hn, hc⟩ := Vrow_get hr hu
  have hlt : i < xs.length := by rw [List.getElem?_eq_some_iff] at hu; exact hu.1
  have hin : (i + 1) * (G.loc id).size ≤ xs.length * (G.loc id).size := Nat.mul_le_mul_right _ hlt
  rw [Nat.succ_mul] at hin
  obtain ⟨w', k1, k2, k3, k4, k5, k6, k7⟩ := run_storeVar (P := P) (off := (G.loc id).base + i * (G.loc id).size + off) hb hw (by omega) (by omega) (cells_oneCell h2 (by rw [h1, AV.nc_eq]) (AV.solid_one hy))
  have hyl : y.cells.length = y.nc := (AV.nc_eq y).symm
  have hRp := hR.put (w' := w') id _ (.row ty g sz (xs.set i (u.putAt off y.cells))) (G.loc id) hH (by rw [Ghost.put_self]; exact Ext.refl _ _) (by omega) (fun ho => .inl ⟨rfl, ho⟩) (fun b _ hne => k3 b (hne (by simp [owns, hnil]))) ⟨k5, k6, k7⟩
    (by
      rw [Ghost.put_self]
      refine ⟨hg', hfx, hsz', .inr ⟨hnil, _, k2, by rw [wr_size, hcs], by simpa using hroom, ?_⟩⟩
      exact Vrow_set hr hu (by simpa using h2) (by simp [h1, AV.nc_eq]) (by omega) (by omega) (AV.putAt_cells (by omega) (AV.solid_one hy)))
  rw [Ghost.put_self] at hRp
  refine ⟨.skip, undef, w', G, ?_, .inr ⟨rfl, rfl⟩, ?_, hRp⟩
  · simp only [execOp, ho, hv]
    exact run_unit P _ w w' k1
  · simp only [V]; exact ⟨#[], rfl, rfl, by simp [Vcells]⟩

end Go.Ab
end
