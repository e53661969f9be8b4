/-
  The law FramesBack at the abstract evaluator: its functions, stepped through once each.
-/
import Derived.Test.YtgdenjkiblpnpaaGreatFW
import Derived.Test.YtgdenjkiblpnpaaGreatGB
import Derived.ChangeArms
set_option linter.unusedSimpArgs false
set_option linter.unusedVariables false
namespace Go.D.FB
open Go.D Go.ChangeShapes Go.WideShapes
set_option linter.unusedSimpArgs false
set_option linter.unusedVariables false
section
variable {H : Type} {enc : TypeId × Value → H} {P : Program} {W : World} {sp : Nat → Bool} {hd : Bool}

theorem rv_slice {α : Type} {a : Addr} {z len cap : Nat} {en : α → List AV} {R : α → Prop} (hz : 0 < z) (hen : ∀ x, (en x).length = z) (hlc : len ≤ cap)
    (h : ∀ i, i < len → ∃ cs x, W.cells? 0 (a.add (i * z)) z = some cs ∧ R x ∧ RvL (kmOf W) Mm.nil (en x) cs) :
    ∃ xs : List α, (∀ x ∈ xs, R x) ∧ Rv (kmOf W) Mm.nil (.isl z (xs.map en)) (.slice (some a) len cap) := by
  obtain ⟨xs, vs, h1, h2, h3, h4⟩ := open_elems hz hen h
  refine ⟨xs, h2, .isl (by simp [h1]) hlc (fun cs hcs => ?_) h3 fun hne => h4 ?_⟩
  · obtain ⟨x, _, rfl⟩ := List.mem_map.1 hcs
    exact hen x
  · rw [← h1]
    apply Nat.pos_of_ne_zero
    intro hh
    have := List.length_eq_zero_iff.1 hh
    subst this
    exact hne rfl

theorem open_words {t e : TypeId} {n : Nat} {cs : List Value} {x : DataW H × List MemPlace} (ht : P.underlying t = some (.slice e)) (he : P.underlying e = some (.int .u64)) (hc : P.cellsOf e = 1)
    (h : DataW.trod enc P W 0 sp hd n t cs = some x) : ∃ v wa ws, cs = [v] ∧ ImmW wa ws ∧ Rv (kmOf W) Mm.nil wa v := by
  rcases DataW.trod_slice ht h with ⟨rfl, _⟩ | ⟨a, len, cap, elems, rest, m, _, rfl, _, _, hlc, _, hel, hi, _, _⟩
  · exact ⟨_, .nils, [], rfl, .nils, .nils⟩
  obtain ⟨xs, _, h2⟩ := rv_slice (W := W) (a := a) (z := 1) (len := len) (cap := cap) (en := fun w : Int => [.int .u64 w]) (R := fun _ => True) (by omega) (fun _ => rfl) hlc fun i hi' => by
    have h0 := hi i hi'
    rw [hc, List.getElem?_eq_getElem (by omega)] at h0
    obtain ⟨cs', h1, h2⟩ := Option.bind_eq_some_iff.1 h0
    obtain ⟨k, rfl, _, _⟩ := DataW.trod_int he h2
    exact ⟨_, k, h1, trivial, .cons .int .nil⟩
  exact ⟨_, _, xs, rfl, .isl xs, h2⟩

theorem open_acts {t e te : TypeId} {f0 f1 f2 f3 f4 : Field} {n : Nat} {cs : List Value} {x : DataW H × List MemPlace} (ht : P.underlying t = some (.slice e)) (he : P.underlying e = some (.struct #[f0, f1, f2, f3, f4]))
    (hc : P.cellsOf e = 5) (o0 : f0.offset = 0) (o1 : f1.offset = 1) (o2 : f2.offset = 2) (o3 : f3.offset = 3) (o4 : f4.offset = 4)
    (c0 : P.cellsOf f0.type = 1) (c1 : P.cellsOf f1.type = 1) (c2 : P.cellsOf f2.type = 1) (c3 : P.cellsOf f3.type = 1) (c4 : P.cellsOf f4.type = 1)
    (t0 : P.underlying f0.type = some (.int .i64)) (t1 : P.underlying f1.type = some (.int .i64)) (t2 : P.underlying f2.type = some (.int .i64)) (t3 : P.underlying f3.type = some (.int .u64))
    (t4 : P.underlying f4.type = some (.slice te)) (hte : P.underlying te = some (.int .u64)) (hce : P.cellsOf te = 1)
    (h : DataW.trod enc P W 0 sp hd n t cs = some x) : ∃ v la as, cs = [v] ∧ ImmA la as ∧ (∀ a ∈ as, ImmW a.v a.ws) ∧ Rv (kmOf W) Mm.nil la v := by
  rcases DataW.trod_slice ht h with ⟨rfl, _⟩ | ⟨a, len, cap, elems, rest, m, _, rfl, _, _, hlc, _, hel, hi, _, _⟩
  · exact ⟨_, .nils, [], rfl, .nils, fun _ ha => absurd ha (by simp), .nils⟩
  obtain ⟨xs, h1, h2⟩ := rv_slice (W := W) (a := a) (z := 5) (len := len) (cap := cap) (en := encA) (R := fun a => ImmW a.v a.ws) (by omega) (fun _ => rfl) hlc fun i hi' => by
    have h0 := hi i hi'
    rw [hc, List.getElem?_eq_getElem (by omega)] at h0
    obtain ⟨cs', h1, h2⟩ := Option.bind_eq_some_iff.1 h0
    obtain ⟨ys, m', _, _, hl, hlen, hf⟩ := DataW.trod_struct he h2
    rw [hc] at hl
    have hlen5 : ys.length = 5 := by rw [hlen]; rfl
    match cs', hl with
    | [v0, v1, v2, v3, v4], _ =>
      match ys, hlen5 with
      | [y0, y1, y2, y3, y4], _ =>
        have g0 := hf 0 f0 rfl
        have g1 := hf 1 f1 rfl
        have g2 := hf 2 f2 rfl
        have g3 := hf 3 f3 rfl
        have g4 := hf 4 f4 rfl
        simp [o0, c0] at g0
        simp [o1, c1] at g1
        simp [o2, c2] at g2
        simp [o3, c3] at g3
        simp [o4, c4] at g4
        obtain ⟨k0, e0, _, _⟩ := DataW.trod_int t0 g0
        obtain ⟨k1, e1, _, _⟩ := DataW.trod_int t1 g1
        obtain ⟨k2, e2, _, _⟩ := DataW.trod_int t2 g2
        obtain ⟨k3, e3, _, _⟩ := DataW.trod_int t3 g3
        obtain ⟨v, wa, ws, e4, iw, rv⟩ := open_words t4 hte hce g4
        simp only [List.cons.injEq, and_true] at e0 e1 e2 e3 e4
        subst e0 e1 e2 e3 e4
        exact ⟨_, ⟨k0, k1, k2, k3, wa, ws⟩, h1, iw, .cons .int (.cons .int (.cons .int (.cons .int (.cons rv .nil))))⟩
  exact ⟨_, _, xs, rfl, .isl xs, h1, h2⟩
end
end Go.D.FB
