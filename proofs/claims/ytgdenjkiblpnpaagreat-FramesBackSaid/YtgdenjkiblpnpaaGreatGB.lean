/-
  The law FramesBack at the abstract evaluator: its functions, stepped through once each.
-/
import Derived.Test.YtgdenjkiblpnpaaGreatEJ
import Derived.Deep.Frames
import Derived.WideKeyArgs
set_option linter.unusedSimpArgs false
set_option linter.unusedVariables false
/-
  The abstract evaluator 'D': a call out of an empty heap with arguments that lie in memory and are only read.
-/
namespace Go.D
open Go.ChangeShapes Go.WideShapes
/-- every row that lies in memory -/
def kmOf (w : World) : Km := fun c => match w.heap[c]? with
  | some (.cells row _ _) => some row
  | _ => none

theorem rel_world {P : Program} {w : World} : Rel P (kmOf w) noMm .empty w where
  ob := fun b o _ L hL => by cases hL
  inj := fun b b' L L' h => by cases h
  dom := fun b L h => by cases h
  fresh := fun b _ => by
    cases b <;> rfl
  imm := fun c row h => by
    unfold kmOf at h
    split at h
    · rename_i row' t fz hc
      cases h
      exact ⟨t, fz, hc⟩
    · cases h
  dis := fun b L h => by cases h

/-- nothing that was there is touched -/
def Old (w w' : World) : Prop := w'.os = w.os ∧ w'.output = w.output ∧ ∀ c, c < w.heap.size → w'.heap[c]? = w.heap[c]?

theorem Old.kept {w w' : World} (h : Old w w') : w.keptBut w' (fun _ => False) := by
  refine ⟨h.1, h.2.1, fun i hi => ?_⟩
  rw [h.2.2 i hi]
  cases w.heap[i]? with
  | none => rfl
  | some o => cases o <;> first | exact ⟨rfl, rfl, rfl, fun _ _ => rfl⟩ | exact .inr ⟨rfl, rfl⟩ | rfl

theorem Old.sameAt {w w' : World} (h : Old w w') {p : MemPlace} (hp : p.block < w.heap.size) : w.sameAt w' p := by
  cases p with
  | cell b off =>
    have := h.2.2 b hp
    simp only [World.sameAt, World.cell?, this]
  | map b => exact h.2.2 b hp

theorem Old.frozen {w w' : World} (h : Old w w') {a : Addr} (hp : a.block < w.heap.size) : w'.frozen? a = w.frozen? a := by
  simp only [World.frozen?, h.2.2 _ hp]

/-- a call that the evaluator answers with 'true', out of an empty heap, with arguments that are only read -/
theorem calls_read {P : Program} (hm : P.follows .mixedOrders = true) {T : Tr DFunc} (ht : (T.items 0 1).all (fun p => okAt P p.1 p.2) = true) {L d f : Nat} {args : List AV} {vals : Array Value} {W : World}
    (hv : RvL (kmOf W) noMm args vals.toList) (hr : (callF T.get? L d (.fn f) args .empty).isTrue = true) : Calls P f vals W fun e w' => e = .returned (.bool true) ∧ Old W w' := by
  obtain ⟨h', hr⟩ := Res.isTrue_spec hr
  have h1 := (callD_ok hm (tabOk_of ht) L d).fn (f := f) (w := W) rel_world hv (by rw [hr]; intro hh; cases hh)
  refine (callsIn_wide.1 h1.2).mono fun e w' hp => ?_
  rw [hr] at hp
  cases e with
  | returned x =>
    obtain ⟨v, h2, K', m', he, hx, _, hext⟩ := hp
    cases he
    cases hx
    exact ⟨rfl, hext.os, hext.output, fun c hc => hext.frame c hc fun b L hb => by cases hb⟩
  | panicked c =>
    obtain ⟨v, h2, K', m', x, he, _⟩ := hp
    cases he
  | outgrown => exact hp.elim

section
variable {H : Type} {enc : TypeId × Value → H} {P : Program}
/-- what a call leaves that touched nothing that was there, where every argument reads as it did -/
theorem post_kept {f : Func} {s : ChangeSpec} {apart fresh handsOn again : Bool} {W W' : World} {args : Array Value} {v : Value} {ds gs : List (DataW H)} {before pa pv : List MemPlace}
    (hW : DataW.Whole enc P f.params.toList s.vars apart W args.toList ds gs before)
    (hres : ∀ (b : Nat) (sp : Nat → Bool) (hd : Bool), DataW.TrodAll enc P W' b sp hd f.resultTypes.toList (v.resultList f.resultTypes.size) (s.fn H (ds ++ gs)).results [])
    (hargs : ∀ sp : Nat → Bool, (∀ p ∈ before, sp p.block = true) → DataW.TrodAll enc P W' 0 sp true f.params.toList args.toList (s.fn H (ds ++ gs)).args pa)
    (hvars : ∀ sp : Nat → Bool, (∀ p ∈ before, sp p.block = true) → DataW.TrodVars enc P W' sp s.vars (s.fn H (ds ++ gs)).vars pv)
    (hps : before = pa ++ pv) (hk : Old W W')
    (hok : ∀ (j : Nat) (t : TypeId) (r : Value), f.resultTypes[j]? = some t → (v.resultList f.resultTypes.size)[j]? = some r → Value.okWide P W' .any 0 t r) :
    s.post enc P f apart fresh handsOn again W args v W' := by
  have hold : ∀ p ∈ before, (fun b => decide (b < W.heap.size)) p.block = true := fun p hp => by simpa using hW.lt p hp
  have hlt := hW.lt
  refine ⟨ds, gs, before, [], pa, pv, hW, hres _ _ _, hargs _ hold, hvars _ hold, World.keptBut_mono (fun p hp => hp.elim) hk.kept, fun _ => ?_⟩
  obtain ⟨_, _, _, _, _, hz, hn⟩ := hW
  refine ⟨hok, _, _, ([] ++ pa) ++ pv, ⟨[] ++ pa, pv, trodAll_append (hargs _ (fun _ _ => rfl)) (hres _ _ _), hvars _ (fun _ _ => rfl), rfl, ?_, ?_⟩, ?_⟩
  · intro b off hp
    have hp' : MemPlace.cell b off ∈ before := by rw [hps]; simpa using hp
    rw [hk.frozen (hlt _ hp')]
    exact hz b off hp'
  · intro ha
    have := hn ha
    rw [hps] at this
    simpa using this
  · intro p hp _
    rw [hps]
    simpa using hp
end

section
variable {H : Type} {enc : TypeId × Value → H} {P : Program} {W : World} {sp : Nat → Bool} {hd : Bool}
/-- the cells of a row, out of a reading -/
theorem kmOf_cell {W : World} {a : Addr} {v : Value} (h : W.cell? a = some v) : a.spot = none ∧ ∃ row, kmOf W a.block = some row ∧ row[a.off]? = some v := by
  unfold World.cell? at h
  split at h
  · rename_i c t fz hc
    split at h
    · cases h
    · rename_i hs
      refine ⟨by simpa using hs, c, ?_, h⟩
      unfold kmOf
      rw [hc]
  · cases h

theorem kmOf_add {W : World} {a : Addr} {k : Nat} {v : Value} (h : W.cell? (a.add k) = some v) : ∃ row, kmOf W a.block = some row ∧ row[a.off + k]? = some v := by
  obtain ⟨_, row, h1, h2⟩ := kmOf_cell h
  unfold Addr.add at h1 h2
  split at h1
  · rename_i hk
    rw [if_pos hk] at h2
    subst hk
    exact ⟨row, h1, h2⟩
  · rename_i hk
    rw [if_neg hk] at h2
    exact ⟨row, h1, h2⟩
theorem kmOf_add2 {W : World} {a : Addr} {k j : Nat} {v : Value} (h : W.cell? ((a.add k).add j) = some v) : ∃ row, kmOf W a.block = some row ∧ row[a.off + k + j]? = some v := by
  obtain ⟨row, h1, h2⟩ := kmOf_add h
  unfold Addr.add at h1 h2
  split at h1
  · rename_i hk
    rw [if_pos hk] at h2
    subst hk
    exact ⟨row, h1, h2⟩
  · rename_i hk
    rw [if_neg hk] at h2
    exact ⟨row, h1, h2⟩

theorem flat_len {α : Type} {z : Nat} {en : α → List AV} (hen : ∀ x, (en x).length = z) : ∀ xs : List α, (xs.map en).flatten.length = xs.length * z
  | [] => by simp
  | y :: ys => by
    have := flat_len hen ys
    rw [List.map_cons, List.flatten_cons, List.length_append, this, hen, List.length_cons, Nat.add_mul]
    omega

/-- a slice's elements, each of 'z' cells that stand for 'enc' of something -/
theorem open_elems {α : Type} {a : Addr} {z len : Nat} {en : α → List AV} {R : α → Prop} (hz : 0 < z) (hen : ∀ x, (en x).length = z)
    (h : ∀ i, i < len → ∃ cs x, W.cells? 0 (a.add (i * z)) z = some cs ∧ R x ∧ RvL (kmOf W) Mm.nil (en x) cs) :
    ∃ (xs : List α) (vs : List Value), xs.length = len ∧ (∀ x ∈ xs, R x) ∧ RvL (kmOf W) Mm.nil (xs.map en).flatten vs ∧ (0 < len → a.spot = none ∧ ∃ row, kmOf W a.block = some row ∧ RowAt row a.off vs) := by
  induction len with
  | zero => exact ⟨[], [], rfl, by simp, (RvL.nil : RvL (kmOf W) Mm.nil [] []), by simp⟩
  | succ n ih =>
    obtain ⟨xs, vs, h1, h2, h3, h4⟩ := ih fun i hi => h i (by omega)
    obtain ⟨cs, x, c1, c2, c3⟩ := h n (by omega)
    obtain ⟨_, hl, hc⟩ := World.cells?_some c1
    have hvl : vs.length = n * z := by
      rw [h3.length, flat_len hen, h1]
    refine ⟨xs ++ [x], vs ++ cs, by simp [h1], fun y hy => ?_, ?_, fun _ => ?_⟩
    · rcases List.mem_append.1 hy with hy | hy
      · exact h2 y hy
      · simp only [List.mem_singleton] at hy; subst hy; exact c2
    · simp only [List.map_append, List.flatten_append, List.map_cons, List.map_nil, List.flatten_cons, List.flatten_nil, List.append_nil]
      exact h3.append c3
    · have hsp : a.spot = none := by
        obtain ⟨cs0, x0, d1, _⟩ := h 0 (by omega)
        obtain ⟨_, hl0, hc0⟩ := World.cells?_some d1
        have h0 := hc0 0 hz
        rw [List.getElem?_eq_getElem (by omega)] at h0
        obtain ⟨hs, _⟩ := kmOf_cell h0
        simpa [Addr.add] using hs
      have h0 := hc 0 hz
      rw [List.getElem?_eq_getElem (by omega)] at h0
      obtain ⟨row, hk, hr⟩ := kmOf_add2 h0
      refine ⟨hsp, row, hk, ?_⟩
      intro j v hv
      by_cases hj : j < vs.length
      · rw [List.getElem?_append_left hj] at hv
        obtain ⟨_, row', hk', hr'⟩ := h4 (by
          rw [hvl] at hj
          apply Nat.pos_of_ne_zero
          intro hh
          subst hh
          simp at hj)
        have : row' = row := by
          rw [hk'] at hk
          exact Option.some.inj hk
        subst this
        exact hr' j v hv
      · rw [List.getElem?_append_right (by omega)] at hv
        have hj2 : j - vs.length < z := by
          rw [← hl]
          exact (List.getElem?_eq_some_iff.1 hv).1
        have h5 := hc (j - vs.length) hj2
        rw [hv] at h5
        obtain ⟨row', hk', hr'⟩ := kmOf_add2 h5
        have e1 : row' = row := by
          rw [hk] at hk'
          exact (Option.some.inj hk').symm
        subst e1
        rw [← hr']
        congr 1
        omega
end
end Go.D
