/-
  The abstract evaluator 'D': how its values stand for the model's values.
-/
import Derived.Test.YtgdenjkiblpnpaaGreatDB
namespace Go.D

/-- where a block lies: the model's block, the place of its first element, cells an element has, elements of the row -/
structure Loc where
  c : Nat
  sh : Nat
  z : Nat
  n : Nat

abbrev Km := Nat → Option (Array Value)
abbrev Mm := Nat → Option Loc
def Mm.nil : Mm := fun _ => none

/-- from a place of a row on these values lie -/
def RowAt (row : Array Value) (o : Nat) (vs : List Value) : Prop := ∀ j v, vs[j]? = some v → row[o + j]? = some v

mutual
inductive Rv (K : Km) : Mm → AV → Value → Prop
  | bot {m : Mm} {v : Value} : Rv K m .bot v
  | bool {m : Mm} {b : Bool} : Rv K m (.bool b) (.bool b)
  | int {m : Mm} {k : IntKind} {n : Int} : Rv K m (.int k n) (.int k n)
  | str {m : Mm} {s : List Nat} {x : ByteArray} (h : x.data.toList.map UInt8.toNat = s) : Rv K m (.str s) (.string x)
  | nilp {m : Mm} : Rv K m .nilp (.pointer none)
  | ptr {m : Mm} {b i off o : Nat} {L : Loc} (h : m b = some L) (ho : o = (L.sh + i) * L.z + off) : Rv K m (.ptr b i off) (.pointer (some ⟨L.c, o, none⟩))
  | iptr {m : Mm} {cells : List AV} {off c o base : Nat} {row : Array Value} {vs : List Value} (hk : K c = some row) (hc : RvL K Mm.nil cells vs)
      (hr : RowAt row base vs) (ho : o = base + off) : Rv K m (.iptr cells off) (.pointer (some ⟨c, o, none⟩))
  | nils {m : Mm} : Rv K m .nils (.slice none 0 0)
  | emps {m : Mm} {a : Addr} : Rv K m .emps (.slice (some a) 0 0)
  | slicex {m : Mm} {z b i len k o : Nat} {L : Loc} (h : m b = some L) (ho : o = (L.sh + i) * L.z) (hz : L.z = z) :
      Rv K m (.slice z b i len (some k)) (.slice (some ⟨L.c, o, none⟩) len k)
  | sliceo {m : Mm} {z b i len k o : Nat} {L : Loc} (h : m b = some L) (ho : o = (L.sh + i) * L.z) (hn : L.sh + i + k = L.n) (hz : L.z = z) :
      Rv K m (.slice z b i len none) (.slice (some ⟨L.c, o, none⟩) len k)
  | isl {m : Mm} {z : Nat} {es : List (List AV)} {a : Addr} {k len : Nat} {vs : List Value} (hl : len = es.length) (hk : len ≤ k) (hz : ∀ cs ∈ es, cs.length = z)
      (hv : RvL K Mm.nil es.flatten vs) (ha : es ≠ [] → a.spot = none ∧ ∃ row, K a.block = some row ∧ RowAt row a.off vs) : Rv K m (.isl z es) (.slice (some a) len k)
  | nilm {m : Mm} : Rv K m .nilm (.map none)
  | map {m : Mm} {b : Nat} {L : Loc} (h : m b = some L) : Rv K m (.map b) (.map (some L.c))
  | nilf {m : Mm} : Rv K m .nilf .nilFunc
  | fn {m : Mm} {f : Nat} {a b : List AV} {xs ys : Array Value} (ha : RvL K m a xs.toList) (hb : RvL K m b ys.toList) : Rv K m (.fn f a b) (.func (.func f) xs ys)
  | yld {m : Mm} {l : Nat} {L : Loc} (h : m l = some L) : Rv K m (.yld l) (.func (.yield L.c) #[] #[])
  | nili {m : Mm} : Rv K m .nili .nilIface
  | iface {m : Mm} {t : Nat} {v : AV} {x : Value} (h : Rv K m v x) : Rv K m (.iface t v) (.iface t x)
  | agg {m : Mm} {cs : List AV} {xs : Array Value} (h : RvL K m cs xs.toList) : Rv K m (.agg cs) (.agg xs)
  | tup {m : Mm} {cs : List AV} {xs : Array Value} (h : RvL K m cs xs.toList) : Rv K m (.tup cs) (.tuple xs)
inductive RvL (K : Km) : Mm → List AV → List Value → Prop
  | nil {m : Mm} : RvL K m [] []
  | cons {m : Mm} {v : AV} {x : Value} {vs : List AV} {xs : List Value} (h : Rv K m v x) (t : RvL K m vs xs) : RvL K m (v :: vs) (x :: xs)
end

section lists
variable {K : Km} {m : Mm}

theorem RvL.length {vs : List AV} {xs : List Value} (h : RvL K m vs xs) : xs.length = vs.length := by
  induction vs generalizing xs with
  | nil => cases h; rfl
  | cons v vs ih => cases h with | cons h t => simp [ih t]

theorem RvL.get {vs : List AV} {xs : List Value} (h : RvL K m vs xs) {i : Nat} {v : AV} (hv : vs[i]? = some v) : ∃ x, xs[i]? = some x ∧ Rv K m v x := by
  induction vs generalizing xs i with
  | nil => simp at hv
  | cons u vs ih =>
    cases h with
    | cons h t =>
      cases i with
      | zero => simp at hv; subst hv; exact ⟨_, rfl, h⟩
      | succ i => simp at hv; simpa using ih t hv

theorem RvL.get' {vs : List AV} {xs : List Value} (h : RvL K m vs xs) {i : Nat} {x : Value} (hx : xs[i]? = some x) : ∃ v, vs[i]? = some v ∧ Rv K m v x := by
  induction vs generalizing xs i with
  | nil => cases h; simp at hx
  | cons u vs ih =>
    cases h with
    | cons h t =>
      cases i with
      | zero => simp at hx; subst hx; exact ⟨_, rfl, h⟩
      | succ i => simp at hx; simpa using ih t hx

theorem RvL.append {vs us : List AV} {xs ys : List Value} (h : RvL K m vs xs) (h' : RvL K m us ys) : RvL K m (vs ++ us) (xs ++ ys) := by
  induction vs generalizing xs with
  | nil => cases h; exact h'
  | cons v vs ih => cases h with | cons h t => exact .cons h (ih t)

theorem RvL.split {vs us : List AV} {xs : List Value} (h : RvL K m (vs ++ us) xs) : RvL K m vs (xs.take vs.length) ∧ RvL K m us (xs.drop vs.length) := by
  induction vs generalizing xs with
  | nil => simpa using ⟨.nil, h⟩
  | cons v vs ih =>
    cases h with
    | cons h t => obtain ⟨a, b⟩ := ih t; exact ⟨by simpa using .cons h a, by simpa using b⟩

theorem RvL.take {vs : List AV} {xs : List Value} (h : RvL K m vs xs) (n : Nat) : RvL K m (vs.take n) (xs.take n) := by
  induction vs generalizing xs n with
  | nil => cases h; simpa using .nil
  | cons v vs ih =>
    cases h with
    | cons h t =>
      cases n with
      | zero => simpa using .nil
      | succ n => simpa using .cons h (ih t n)

theorem RvL.drop {vs : List AV} {xs : List Value} (h : RvL K m vs xs) (n : Nat) : RvL K m (vs.drop n) (xs.drop n) := by
  induction vs generalizing xs n with
  | nil => cases h; simpa using .nil
  | cons v vs ih =>
    cases h with
    | cons h t =>
      cases n with
      | zero => simpa using .cons h t
      | succ n => simpa using ih t n

theorem RvL.replicate {v : AV} {x : Value} (h : Rv K m v x) (n : Nat) : RvL K m (List.replicate n v) (List.replicate n x) := by
  induction n with
  | zero => exact .nil
  | succ n ih => exact .cons h ih

theorem RvL.map {α : Type} {f : α → AV} {g : α → Value} (l : List α) (h : ∀ a ∈ l, Rv K m (f a) (g a)) : RvL K m (l.map f) (l.map g) := by
  induction l with
  | nil => exact .nil
  | cons a l ih => exact .cons (h a (by simp)) (ih fun b hb => h b (by simp [hb]))

theorem RvL.of_get {vs : List AV} {xs : List Value} (hl : xs.length = vs.length) (h : ∀ (i : Nat) (v : AV) (x : Value), vs[i]? = some v → xs[i]? = some x → Rv K m v x) :
    RvL K m vs xs := by
  induction vs generalizing xs with
  | nil => cases xs with | nil => exact .nil | cons => simp at hl
  | cons v vs ih =>
    cases xs with
    | nil => simp at hl
    | cons x xs => exact .cons (h 0 v x rfl rfl) (ih (by simpa using hl) fun i a b ha hb => h (i + 1) a b (by simpa using ha) (by simpa using hb))

theorem RvL.one {v : AV} {x : Value} (h : Rv K m v x) : RvL K m [v] [x] := .cons h .nil
end lists

/-- cells of a value -/
theorem Rv.cells {K : Km} {m : Mm} {v : AV} {x : Value} (h : Rv K m v x) (hb : v.cells.all AV.one = true) : RvL K m v.cells x.cells.toList := by
  cases v with
  | bot => simp [AV.cells, AV.one] at hb
  | tup vs => simp [AV.cells, AV.one] at hb
  | agg cs => cases h with | agg h => exact h
  | _ => cases h <;> exact RvL.one (by constructor <;> assumption)

theorem Rv.oneCell {K : Km} {m : Mm} {v : AV} {x : Value} (h : Rv K m v x) (hb : v.one = true) : x.oneCell' = true := by
  cases h <;> first | rfl | simp [AV.one] at hb

theorem RvL.oneCells {K : Km} {m : Mm} {vs : List AV} {xs : List Value} (h : RvL K m vs xs) (hb : vs.all AV.one = true) : ∀ x ∈ xs, x.oneCell' = true := by
  induction vs generalizing xs with
  | nil => cases h; simp
  | cons v vs ih =>
    cases h with
    | cons h t =>
      simp only [List.all_cons, Bool.and_eq_true] at hb
      intro x hx
      rcases List.mem_cons.1 hx with rfl | hx
      · exact h.oneCell hb.1
      · exact ih t hb.2 x hx

/-! ### More is known later -/
def Km.le (K K' : Km) : Prop := ∀ c row, K c = some row → K' c = some row
def Mm.le (m m' : Mm) : Prop := ∀ b L, m b = some L → m' b = some L
theorem Km.le.refl (K : Km) : K.le K := fun _ _ h => h
theorem Mm.le.refl (m : Mm) : m.le m := fun _ _ h => h
theorem Km.le.trans {K K' K'' : Km} (h : K.le K') (h' : K'.le K'') : K.le K'' := fun _ _ x => h' _ _ (h _ _ x)
theorem Mm.le.trans {m m' m'' : Mm} (h : m.le m') (h' : m'.le m'') : m.le m'' := fun _ _ x => h' _ _ (h _ _ x)
theorem Mm.nil_le (m : Mm) : Mm.nil.le m := fun _ _ h => by cases h

mutual
theorem Rv.mono {K K' : Km} {m m' : Mm} (hK : K.le K') (hm : m.le m') {v : AV} {x : Value} (h : Rv K m v x) : Rv K' m' v x :=
  match h with
  | .bot => .bot
  | .bool => .bool
  | .int => .int
  | .str h => .str h
  | .nilp => .nilp
  | .ptr h ho => .ptr (hm _ _ h) ho
  | .iptr hk hc hr ho => .iptr (hK _ _ hk) (hc.mono hK (Mm.le.refl _)) hr ho
  | .nils => .nils
  | .emps => .emps
  | .slicex h ho hz => .slicex (hm _ _ h) ho hz
  | .sliceo h ho hn hz => .sliceo (hm _ _ h) ho hn hz
  | .isl hl hk hz hv ha => .isl hl hk hz (hv.mono hK (Mm.le.refl _)) fun hne => let ⟨a, row, b, c⟩ := ha hne; ⟨a, row, hK _ _ b, c⟩
  | .nilm => .nilm
  | .map h => .map (hm _ _ h)
  | .nilf => .nilf
  | .fn ha hb => .fn (ha.mono hK hm) (hb.mono hK hm)
  | .yld h => .yld (hm _ _ h)
  | .nili => .nili
  | .iface h => .iface (h.mono hK hm)
  | .agg h => .agg (h.mono hK hm)
  | .tup h => .tup (h.mono hK hm)
theorem RvL.mono {K K' : Km} {m m' : Mm} (hK : K.le K') (hm : m.le m') {vs : List AV} {xs : List Value} (h : RvL K m vs xs) : RvL K' m' vs xs :=
  match h with
  | .nil => .nil
  | .cons h t => .cons (h.mono hK hm) (t.mono hK hm)
end

mutual
/-- a tree stands for what it stands for whatever the map of blocks -/
theorem Rv.tree {K : Km} {m m' : Mm} {v : AV} {x : Value} (h : Rv K m v x) (ht : v.tree = true) : Rv K m' v x :=
  match h with
  | .bot => .bot
  | .bool => .bool
  | .int => .int
  | .str h => .str h
  | .nilp => .nilp
  | .ptr _ _ => by simp [AV.tree] at ht
  | .iptr hk hc hr ho => .iptr hk hc hr ho
  | .nils => .nils
  | .emps => .emps
  | .slicex _ _ _ => by simp [AV.tree] at ht
  | .sliceo _ _ _ _ => by simp [AV.tree] at ht
  | .isl hl hk hz hv ha => .isl hl hk hz hv ha
  | .nilm => .nilm
  | .map _ => by simp [AV.tree] at ht
  | .nilf => .nilf
  | .fn ha hb => .fn (ha.tree (by simp [AV.tree] at ht; exact ht.1)) (hb.tree (by simp [AV.tree] at ht; exact ht.2))
  | .yld _ => by simp [AV.tree] at ht
  | .nili => .nili
  | .iface h => .iface (h.tree (by simpa [AV.tree] using ht))
  | .agg h => .agg (h.tree (by simpa [AV.tree] using ht))
  | .tup h => .tup (h.tree (by simpa [AV.tree] using ht))
theorem RvL.tree {K : Km} {m m' : Mm} {vs : List AV} {xs : List Value} (h : RvL K m vs xs) (ht : AV.trees vs = true) : RvL K m' vs xs :=
  match h with
  | .nil => .nil
  | .cons h t => .cons (h.tree (by simp [AV.trees] at ht; exact ht.1)) (t.tree (by simp [AV.trees] at ht; exact ht.2))
end

mutual
/-- what holds no address stands for what it stands for, whatever the memory -/
theorem Rv.scalar {K K' : Km} {m m' : Mm} {v : AV} {x : Value} (h : Rv K m v x) (ht : v.scalar = true) : Rv K' m' v x :=
  match h with
  | .bool => .bool
  | .int => .int
  | .str h => .str h
  | .nilp => .nilp
  | .nils => .nils
  | .nilm => .nilm
  | .nilf => .nilf
  | .nili => .nili
  | .iface h => .iface (h.scalar (by simpa [AV.scalar] using ht))
  | .agg h => .agg (h.scalar (by simpa [AV.scalar] using ht))
  | .tup h => .tup (h.scalar (by simpa [AV.scalar] using ht))
  | .bot => by simp [AV.scalar] at ht
  | .ptr _ _ => by simp [AV.scalar] at ht
  | .iptr _ _ _ _ => by simp [AV.scalar] at ht
  | .emps => by simp [AV.scalar] at ht
  | .slicex _ _ _ => by simp [AV.scalar] at ht
  | .sliceo _ _ _ _ => by simp [AV.scalar] at ht
  | .isl _ _ _ _ _ => by simp [AV.scalar] at ht
  | .map _ => by simp [AV.scalar] at ht
  | .fn _ _ => by simp [AV.scalar] at ht
  | .yld _ => by simp [AV.scalar] at ht
theorem RvL.scalar {K K' : Km} {m m' : Mm} {vs : List AV} {xs : List Value} (h : RvL K m vs xs) (ht : AV.scalars vs = true) : RvL K' m' vs xs :=
  match h with
  | .nil => .nil
  | .cons h t => .cons (h.scalar (by simp [AV.scalars] at ht; exact ht.1)) (t.scalar (by simp [AV.scalars] at ht; exact ht.2))
end

end Go.D
