/-
  The law FramesBack at the abstract evaluator: its functions, stepped through once each.
-/
import Derived.Test.YtgdenjkiblpnpaaGreatFX3
set_option linter.unusedSimpArgs false
set_option linter.unusedVariables false
namespace Go.D.FB
open Go.D
set_option maxRecDepth 100000
section
variable {d L : Nat} {h g h1 h2 : Heap} {bm bw bs bx q : Nat} {ls l : AV} {f : Nat → Int} {fs : List Fm} {vs : Nat → Nat → Int} {vb : Nat → Nat} {sv : Nat → AV} {ρ ρ1 ρ2 ρ' : Nat → Nat × Nat} {T : List Nat}

theorem r_at (r : RInv g bx l fs vs vb sv ρ) (pg : PGo g h1 ρ ρ1 T) : RInv h1 bx l fs vs vb sv ρ1 :=
  (r.rho pg.old).touch pg.touch fun b hb => by rw [pg.old b (pg.roles b hb).2]; exact isP_not_isR (pg.roles b hb).1
theorem p_at (p : PInv h1 bm bw bs ls f fs ρ1) (rg : RGo h1 h2 ρ1 ρ2 T) : PInv h2 bm bw bs ls f fs ρ2 :=
  (p.rho rg.old).touch rg.touch fun b hb => by rw [rg.old b (rg.roles b hb).2]; exact isR_not_isP (rg.roles b hb).1
/-- a block that is neither's -/
theorem q_p (pg : PGo g h1 ρ ρ1 T) (hq : ρ q = (9, 9) ∧ q < g.next) : (ρ1 q = (9, 9) ∧ q < h1.next) ∧ h1.get q = g.get q :=
  ⟨⟨by rw [pg.old q hq.2]; exact hq.1, Nat.lt_of_lt_of_le hq.2 pg.touch.1⟩, pg.touch.2 q hq.2 fun hh => by have := (pg.roles q hh).1; rw [hq.1] at this; simp [isP] at this⟩
theorem q_r (rg : RGo g h1 ρ ρ1 T) (hq : ρ q = (9, 9) ∧ q < g.next) : (ρ1 q = (9, 9) ∧ q < h1.next) ∧ h1.get q = g.get q :=
  ⟨⟨by rw [rg.old q hq.2]; exact hq.1, Nat.lt_of_lt_of_le hq.2 rg.touch.1⟩, rg.touch.2 q hq.2 fun hh => by have := (rg.roles q hh).1; rw [hq.1] at this; simp [isR] at this⟩

/-- the invariant, whatever the rest is -/
def InvE (h : Heap) (bm bw bs bx : Nat) : Prop := ∃ ls l f fs vs vb sv ρ, Inv h bm bw bs bx ls l f fs vs vb sv ρ

/-- what two calls, one on each side, come to -/
def Both (L d : Nat) (g : Heap) (bm bw bs bx q : Nat) (nP : Nat) (aP : List AV) (nR : Nat) (aR : List AV) : Prop :=
  ∃ v1 v2 h1 h2, callF tabT.get? L (d + 4) (.fn nP) aP g = .ok v1 h1 ∧ callF tabT.get? L (d + 4) (.fn nR) aR h1 = .ok v2 h2 ∧ InvE h2 bm bw bs bx ∧ h1.get q = g.get q ∧ h2.get q = g.get q ∧ AV.beq v1 v2 = true

def BothB (L d : Nat) (g : Heap) (bm bw bs bx q : Nat) (nP : Nat) (aP : List AV) (nR : Nat) (aR : List AV) : Prop :=
  ∃ b h1 h2, callF tabT.get? L (d + 4) (.fn nP) aP g = .ok (.bool b) h1 ∧ callF tabT.get? L (d + 4) (.fn nR) aR h1 = .ok (.bool b) h2 ∧ InvE h2 bm bw bs bx ∧ h1.get q = g.get q ∧ h2.get q = g.get q
def BothU (L d : Nat) (g : Heap) (bm bw bs bx q : Nat) (nP : Nat) (aP : List AV) (nR : Nat) (aR : List AV) : Prop :=
  ∃ h1 h2, callF tabT.get? L (d + 4) (.fn nP) aP g = .ok (.tup []) h1 ∧ callF tabT.get? L (d + 4) (.fn nR) aR h1 = .ok (.tup []) h2 ∧ InvE h2 bm bw bs bx ∧ h1.get q = g.get q ∧ h2.get q = g.get q

theorem ReadsW.pgo {v : AV} {ws : List Int} (hv : ReadsW g v ws) (hvb : v.blk = none) : ReadsW h1 v ws := by
  refine ⟨?_, ?_, ?_⟩
  · have := hv.len
    cases v <;> simp_all [lenD, AV.blk]
  · rw [← hv.elems]
    cases v <;> simp_all [elemsOf, AV.blk]
  · intro k hk
    obtain ⟨p, w, q1, q2, q3⟩ := hv.at_ k hk
    refine ⟨p, w, q1, q2, ?_⟩
    cases v with
    | slice => cases hvb
    | isl z es =>
      simp only [iadV] at q1
      cases hc : Nat.beq 1 z with
      | false => rw [hc] at q1; cases q1
      | true =>
        rw [hc] at q1
        simp only [cond_true, Option.map_eq_some_iff] at q1
        obtain ⟨cs, _, rfl⟩ := q1
        exact q3
    | _ => cases q1

theorem both_enter {v : AV} {ws : List Int} {m x : Int} (iv : Inv g bm bw bs bx ls l f fs vs vb sv ρ) (hq : ρ q = (9, 9) ∧ q < g.next) (hv : ReadsW g v ws) (hvb : v.blk = none) (hL : 1000 < L) :
    BothB L d g bm bw bs bx q 15 [.ptr bs 0 0, .int .i64 m, .int .i64 x, v] 29 [.ptr bx 0 0, .int .i64 m, .int .i64 x, v] := by
  by_cases hc : fs.length < 64 ∧ ¬ x < ws.length ∧ ¬ 152 < x
  · obtain ⟨c1, c2, c3⟩ := hc
    obtain ⟨h1, ls1, f1, ρ1, T1, p1, p2, p3, p4, p5⟩ := p_enter (d := d + 1) (L := L) (m := m) (x := x) iv.p hv hvb c1 c2 c3 hL
    obtain ⟨h2, l2, vs2, vb2, sv2, ρ2, T2, r1, r2, r3, r4, r5⟩ := r_enter (d := d + 3) (L := L) (m := m) (x := x) (r_at iv.r p3) (ReadsW.pgo hv hvb) hvb c1 c2 c3 hL
    obtain ⟨q1, q2⟩ := q_p p3 hq
    obtain ⟨q3, q4⟩ := q_r r3 q1
    refine ⟨true, h1, h2, p1, r1, ⟨_, _, _, _, _, _, _, _, Inv.of (p_at p2 r3) r2 ?_⟩, q2, q4.trans q2⟩
    intro k y hk ho j hj
    rcases snoc_get hk with ⟨hk, hlt⟩ | ⟨rfl, rfl⟩
    · rw [p4 _ (by omega), r4 k hlt]
      exact iv.link k y hk ho j hj
    · rw [p5 j hj, r5 j hj]
  · have hc' : 64 ≤ fs.length ∨ x < ws.length ∨ 152 < x := by omega
    have hlen := iv.len
    refine ⟨false, g, g, enter_no (d := d + 1) iv.stack iv.rows hv (by simp; omega) (by simpa using hc'), renter_no (d := d + 3) iv.ref iv.rrows hv (by simpa using hc'), ⟨_, _, _, _, _, _, _, _, iv⟩, rfl, rfl⟩

theorem both_filter {k x : Int} (iv : Inv g bm bw bs bx ls l f fs vs vb sv ρ) (hq : ρ q = (9, 9) ∧ q < g.next) (hL : 1000 < L) :
    BothB L d g bm bw bs bx q 30 [.ptr bs 0 0, .int .i64 k, .int .u64 x] 31 [.ptr bx 0 0, .int .i64 k, .int .u64 x] := by
  by_cases hc : fs.length < 64 ∧ 0 ≤ k ∧ k < fs.length
  · obtain ⟨c1, c2, c3⟩ := hc
    obtain ⟨k, rfl⟩ := Int.eq_ofNat_of_zero_le c2
    have hkl : k < fs.length := by omega
    obtain ⟨y, hy⟩ : ∃ y, fs[k]? = some y := ⟨fs[k], by simp [hkl]⟩
    obtain ⟨h1, ls1, f1, ρ1, T1, p1, p2, p3, p4⟩ := p_filter (d := d) (L := L) (x := x) iv.p c1 hy hL
    obtain ⟨h2, l2, sv2, ρ2, T2, r1, r2, r3⟩ := r_filter (d := d + 3) (L := L) (x := x) (r_at iv.r p3) c1 hy
    obtain ⟨q1, q2⟩ := q_p p3 hq
    obtain ⟨q3, q4⟩ := q_r r3 q1
    refine ⟨true, h1, h2, p1, r1, ⟨_, _, _, _, _, _, _, _, Inv.of (p_at p2 r3) r2 ?_⟩, q2, q4.trans q2⟩
    intro j z hj ho i hi
    rcases snoc_get hj with ⟨hj, hlt⟩ | ⟨rfl, rfl⟩
    · rw [p4 _ (by omega)]
      exact iv.link j z hj ho i hi
    · have := (iv.own k y hy).1
      simp only at ho
      omega
  · have hc' : 64 ≤ fs.length ∨ k < 0 ∨ fs.length ≤ k := by omega
    refine ⟨false, g, g, filter_no (d := d) iv.stack iv.rows (by simpa using hc'), rfilter_no (d := d + 3) iv.ref iv.rrows (by simpa using hc'), ⟨_, _, _, _, _, _, _, _, iv⟩, rfl, rfl⟩

theorem both_leave (iv : Inv g bm bw bs bx ls l f fs vs vb sv ρ) (hq : ρ q = (9, 9) ∧ q < g.next) : BothB L d g bm bw bs bx q 16 [.ptr bs 0 0] 32 [.ptr bx 0 0] := by
  cases hn : fs.length with
  | zero =>
    exact ⟨false, g, g, leave_no (d := d + 2) iv.stack (by rw [iv.plen, hn]), rleave_no (d := d + 3) iv.ref (by rw [iv.rlen, hn]), ⟨_, _, _, _, _, _, _, _, iv⟩, rfl, rfl⟩
  | succ n =>
    obtain ⟨h1, ls1, T1, p1, p2, p3⟩ := p_leave (d := d + 2) (L := L) iv.p hn
    obtain ⟨h2, l2, ρ2, T2, r1, r2, r3⟩ := r_leave (d := d + 3) (L := L) (r_at iv.r p3) hn
    obtain ⟨q1, q2⟩ := q_p p3 hq
    obtain ⟨q3, q4⟩ := q_r r3 q1
    refine ⟨true, h1, h2, p1, r1, ⟨_, _, _, _, _, _, _, _, Inv.of (p_at p2 r3) r2 ?_⟩, q2, q4.trans q2⟩
    intro j z hj ho i hi
    exact iv.link j z (take_get hj).1 ho i hi

theorem link_set {k : Nat} {y z : Fm} {f' : Nat → Int} (lk : Link f fs vs) (hy : fs[k]? = some y) (hz : z.own = y.own) (hf : ∀ j i, j < fs.length → i < 152 → f' (12 + 256 * j + i) = f (12 + 256 * j + i)) : Link f' (fs.set k z) vs := by
  intro j w hj ho i hi
  rcases set_get hj with ⟨rfl, rfl⟩ | ⟨hne, hj⟩
  · rw [hf j i (List.getElem?_eq_some_iff.1 hy).1 hi]
    exact lk j y hy (by rw [← hz]; exact ho) i hi
  · rw [hf j i (List.getElem?_eq_some_iff.1 hj).1 hi]
    exact lk j w hj ho i hi

/-- a push: both say the same; where it is done, words lie on top -/
theorem both_push {v : AV} {ws : List Int} (iv : Inv g bm bw bs bx ls l f fs vs vb sv ρ) (hq : ρ q = (9, 9) ∧ q < g.next) (hv : ReadsW g v ws) (hvb : v.blk = none) (hws : ws.length < 1000) (hL : 1000 < L) :
    BothB L d g bm bw bs bx q 10 [.ptr bs 0 0, v] 11 [.ptr bx 0 0, v] := by
  cases hn : fs.length with
  | zero => exact ⟨false, g, g, push0_spec (d := d + 1) iv.stack (by rw [iv.plen, hn]), rpush_none (d := d + 3) iv.ref (by rw [iv.rlen, hn]), ⟨_, _, _, _, _, _, _, _, iv⟩, rfl, rfl⟩
  | succ n =>
    obtain ⟨y, hy⟩ : ∃ y, fs[n]? = some y := ⟨fs[n], by simp [hn]⟩
    have hlen := iv.len
    by_cases hc : y.stk.length + ws.length ≤ 96
    · obtain ⟨h1, f1, T1, p1, p2, p3, p4⟩ := p_push (d := d + 1) (L := L) iv.p hn hy hv hvb hc hL
      obtain ⟨h2, sv2, ρ2, T2, r1, r2, r3⟩ := r_push (d := d + 3) (L := L) (r_at iv.r p3) hn hy (ReadsW.pgo hv hvb) hc
      obtain ⟨q1, q2⟩ := q_p p3 hq
      obtain ⟨q3, q4⟩ := q_r r3 q1
      exact ⟨true, h1, h2, p1, r1, ⟨_, _, _, _, _, _, _, _, Inv.of (p_at p2 r3) r2 (link_set iv.link hy rfl fun j i hj hi => p4 j i (by omega) hi)⟩, q2, q4.trans q2⟩
    · obtain ⟨b0, sp, hl0, hr⟩ := iv.prow (by omega)
      have hst := iv.stack
      rw [hl0, hn] at hst
      have hb0 := iv.p.nls (b := b0) (by rw [hl0]; rfl)
      have hne := iv.p.ne
      have hpn : (fs.mapIdx pRow ++ sp)[n]? = some (pRow n y) := by rw [List.getElem?_append_left (by simp; omega)]; simp [hy]
      have p1 := (push_spec (d := d + 1) (L := L) iv.mem hst iv.words hr (by omega) hpn (by omega) (by omega) (iv.stk n y hy).1 hv hws hL iv.rbm.2 iv.rbw.2 iv.rbs.2 hb0.1 hne.1 (Ne.symm hb0.2.1) hne.2.1 (Ne.symm hb0.2.2.2) (Ne.symm hb0.2.2.1)
        (fun b hb => by rw [hvb] at hb; cases hb)).1 (by omega)
      exact ⟨false, g, g, p1, rpush_no (d := d + 3) iv.ref iv.rrows (by simpa using hn) (by omega) (iv.r.get hy) (iv.svs n y hy) hv (iv.stk n y hy).1 (by omega), ⟨_, _, _, _, _, _, _, _, iv⟩, rfl, rfl⟩

/-- a pop: both give the same words, that can be read behind both -/
theorem both_pop {k : Int} (iv : Inv g bm bw bs bx ls l f fs vs vb sv ρ) (hq : ρ q = (9, 9) ∧ q < g.next) (hL : 1000 < L) :
    ∃ v1 v2 h1 h2 ws, callF tabT.get? L (d + 4) (.fn 13) [.ptr bs 0 0, .int .i64 k] g = .ok v1 h1 ∧ callF tabT.get? L (d + 4) (.fn 14) [.ptr bx 0 0, .int .i64 k] h1 = .ok v2 h2 ∧ InvE h2 bm bw bs bx ∧ h1.get q = g.get q ∧ h2.get q = g.get q ∧
      (lenD h2 .sl v1 = some ws.length ∧ ∀ k, k < ws.length → ∃ p w, iadV 1 v1 k = some p ∧ ws[k]? = some w ∧ loadD h2 none p = some (.int .u64 w)) ∧ ReadsW h2 v2 ws ∧ ws.length ≤ 96 := by
  have hnil : ∀ (h : Heap), (lenD h .sl .nils = some ([] : List Int).length ∧ ∀ k, k < ([] : List Int).length → ∃ p w, iadV 1 .nils k = some p ∧ ([] : List Int)[k]? = some w ∧ loadD h none p = some (.int .u64 w)) := fun h => ⟨rfl, fun k hk => by simp at hk⟩
  have hlen := iv.len
  cases hn : fs.length with
  | zero =>
    exact ⟨.nils, .nils, g, g, [], pop0_spec (d := d + 1) iv.stack (by rw [iv.plen, hn]), rpop_no (d := d + 3) iv.ref iv.rrows (.inl (by simpa using hn)) (by simp; omega), ⟨_, _, _, _, _, _, _, _, iv⟩, rfl, rfl, hnil g, .nils, by simp⟩
  | succ n =>
    obtain ⟨y, hy⟩ : ∃ y, fs[n]? = some y := ⟨fs[n], by simp [hn]⟩
    obtain ⟨b0, sp, hl0, hr⟩ := iv.prow (by omega)
    have hst := iv.stack
    rw [hl0, hn] at hst
    have hpn : (fs.mapIdx pRow ++ sp)[n]? = some (pRow n y) := by rw [List.getElem?_append_left (by simp; omega)]; simp [hy]
    by_cases hk0 : k < 0
    · exact ⟨.nils, .nils, g, g, [], pop_no (d := d + 1) hst hr (by omega) hpn (.inl hk0), rpop_no (d := d + 3) iv.ref iv.rrows (.inr hk0) (by simp; omega), ⟨_, _, _, _, _, _, _, _, iv⟩, rfl, rfl, hnil g, .nils, by simp⟩
    · by_cases hk1 : (y.stk.length : Int) < k
      · exact ⟨.nils, .nils, g, g, [], pop_no (d := d + 1) hst hr (by omega) hpn (.inr hk1), rpop_big (d := d + 3) iv.ref iv.rrows (by simpa using hn) (by omega) (iv.r.get hy) (iv.svs n y hy) hk1, ⟨_, _, _, _, _, _, _, _, iv⟩, rfl, rfl, hnil g, .nils, by simp⟩
      · obtain ⟨k, rfl⟩ := Int.eq_ofNat_of_zero_le (by omega : 0 ≤ k)
        have hk : k ≤ y.stk.length := by omega
        obtain ⟨h1, b, T1, p1, p2, p3, p4, p5, p6⟩ := p_pop (d := d + 1) (L := L) iv.p hn hy hk hL
        obtain ⟨h2, sv2, ρ2, out, r1, r2, r3, r4⟩ := r_pop (d := d + 3) (L := L) (r_at iv.r p3) hn hy hk
        obtain ⟨q1, q2⟩ := q_p p3 hq
        obtain ⟨q3, q4⟩ := q_r r3 q1
        have hs := (iv.stk n y hy).1
        have hws : (y.stk.drop (y.stk.length - k)).length = k := by simp; omega
        have hb2 : h2.get b = h1.get b := r3.touch.2 b p5 fun hh => by
          have := (iv.rl b (by simpa using hh)).2
          omega
        have hrd := WordsAt.reads (p6.same hb2) (ws := y.stk.drop (y.stk.length - k)) hws (fun i w hi => by
          rw [List.getElem?_drop] at hi
          have := (iv.stk n y hy).2 _ w hi
          rw [← this]; congr 1; omega) (some k)
        exact ⟨_, out, h1, h2, y.stk.drop (y.stk.length - k), p1, r1, ⟨_, _, _, _, _, _, _, _, Inv.of (p_at p2 r3) r2 (link_set iv.link hy rfl fun j i hj hi => rfl)⟩, q2, q4.trans q2, hrd, r4, by omega⟩

theorem both_clear {k : Int} (iv : Inv g bm bw bs bx ls l f fs vs vb sv ρ) (hq : ρ q = (9, 9) ∧ q < g.next) :
    BothU L d g bm bw bs bx q 33 [.ptr bs 0 0, .int .i64 k] 34 [.ptr bx 0 0, .int .i64 k] := by
  by_cases hc : 0 ≤ k ∧ k < fs.length
  · obtain ⟨k, rfl⟩ := Int.eq_ofNat_of_zero_le hc.1
    have hkl : k < fs.length := by omega
    obtain ⟨y, hy⟩ : ∃ y, fs[k]? = some y := ⟨fs[k], by simp [hkl]⟩
    obtain ⟨h1, T1, p1, p2, p3⟩ := p_clear (d := d + 2) (L := L) iv.p hy
    obtain ⟨h2, sv2, ρ2, T2, r1, r2, r3⟩ := r_clear (d := d + 3) (L := L) (r_at iv.r p3) hy
    obtain ⟨q1, q2⟩ := q_p p3 hq
    obtain ⟨q3, q4⟩ := q_r r3 q1
    exact ⟨h1, h2, p1, r1, ⟨_, _, _, _, _, _, _, _, Inv.of (p_at p2 r3) r2 (link_set iv.link hy rfl fun j i hj hi => rfl)⟩, q2, q4.trans q2⟩
  · have hc' : k < 0 ∨ fs.length ≤ k := by omega
    exact ⟨g, g, clear_no (d := d + 2) iv.stack iv.plen hc', rclear_no (d := d + 3) iv.ref iv.rlen hc', ⟨_, _, _, _, _, _, _, _, iv⟩, rfl, rfl⟩
theorem both_move {k x : Int} (iv : Inv g bm bw bs bx ls l f fs vs vb sv ρ) (hq : ρ q = (9, 9) ∧ q < g.next) :
    BothU L d g bm bw bs bx q 35 [.ptr bs 0 0, .int .i64 k, .int .i64 x] 36 [.ptr bx 0 0, .int .i64 k, .int .i64 x] := by
  by_cases hc : 0 ≤ k ∧ k < fs.length
  · obtain ⟨k, rfl⟩ := Int.eq_ofNat_of_zero_le hc.1
    have hkl : k < fs.length := by omega
    obtain ⟨y, hy⟩ : ∃ y, fs[k]? = some y := ⟨fs[k], by simp [hkl]⟩
    obtain ⟨h1, T1, p1, p2, p3⟩ := p_move (d := d + 2) (L := L) (x := x) iv.p hy
    obtain ⟨h2, sv2, ρ2, T2, r1, r2, r3⟩ := r_move (d := d + 3) (L := L) (x := x) (r_at iv.r p3) hy
    obtain ⟨q1, q2⟩ := q_p p3 hq
    obtain ⟨q3, q4⟩ := q_r r3 q1
    exact ⟨h1, h2, p1, r1, ⟨_, _, _, _, _, _, _, _, Inv.of (p_at p2 r3) r2 (link_set iv.link hy rfl fun j i hj hi => rfl)⟩, q2, q4.trans q2⟩
  · have hc' : k < 0 ∨ fs.length ≤ k := by omega
    exact ⟨g, g, move_no (d := d + 2) iv.stack iv.plen hc', rmove_no (d := d + 3) iv.ref iv.rlen hc', ⟨_, _, _, _, _, _, _, _, iv⟩, rfl, rfl⟩
end
end Go.D.FB
namespace Go.D.FB
open Go.D
set_option maxRecDepth 100000
section
variable {d L : Nat} {h g h1 h2 : Heap} {bm bw bs bx q : Nat} {ls l : AV} {f : Nat → Int} {fs : List Fm} {vs : Nat → Nat → Int} {vb : Nat → Nat} {sv : Nat → AV} {ρ ρ1 ρ2 ρ' : Nat → Nat × Nat} {T : List Nat}

theorem one_int (k : IntKind) (n : Int) : AV.one (.int k n) = true := (rfl)

/-- a block for one's own use -/
theorem Inv.own_block (iv : Inv h bm bw bs bx ls l f fs vs vb sv ρ) (o : Ob) : Inv (h.new o) bm bw bs bx ls l f fs vs vb sv (role ρ h.next (9, 9)) := by
  have hr : ∀ b, b < h.next → role ρ h.next (9, 9) b = ρ b := fun b hb => by simp only [role]; rw [if_neg (by omega)]
  have ht : Touch h (h.new o) [] := Touch.new
  exact Inv.of ((iv.p.rho hr).touch ht (fun b hb => by cases hb)) ((iv.r.rho hr).touch ht (fun b hb => by cases hb)) iv.link

/-- the acts' last kind: a word is put at a variable -/
theorem do7 {n : Nat} {y : Fm} {k : Nat} {x : Int} (iv : Inv g bm bw bs bx ls l f fs vs vb sv ρ) (hq : ρ q = (9, 9) ∧ q < g.next) (hn : fs.length = n + 1) (hy : fs[n]? = some y) (hk : k < 152) :
    ∃ h1 op ct, callF tabT.get? L (d + 4) (.fn 38) [.ptr bm 0 0, .int .u64 ((12 + 256 * y.own + k : Nat) : Int), .int .u64 x] g = .ok (.tup []) h1 ∧ RefAt h1 bx l ∧ h1.get q = g.get q ∧
      h1.get (vb y.own) = some (.cells 1 op ct) ∧ ct.get? k = some [.int .u64 (vs y.own k)] ∧ (∃ b sr, l = .slice 5 b 0 fs.length none ∧ h1.get b = some (.cells 5 true (.list (fs.mapIdx (rRow vb sv) ++ sr)))) ∧
      InvE (h1.set (vb y.own) (.cells 1 op (ct.set k [.int .u64 x]))) bm bw bs bx := by
  obtain ⟨o1, z, o2, o3⟩ := iv.own n y hy
  have hol : y.own < fs.length := (List.getElem?_eq_some_iff.1 o2).1
  obtain ⟨h1, T, p1, p2, p3⟩ := p_put (d := d + 3) (L := L) (x := x) iv.p hol hk
  have r1 := r_at iv.r p3
  obtain ⟨q1, q2⟩ := q_p p3 hq
  obtain ⟨op, ct, w1, w2, w3⟩ := r1.vars y.own z o2 o3
  obtain ⟨v1, v2⟩ := r1.rvb y.own z o2 o3
  have hrr : ∃ b sr, l = .slice 5 b 0 fs.length none ∧ h1.get b = some (.cells 5 true (.list (fs.mapIdx (rRow vb sv) ++ sr))) := by
    rcases r1.rrows with ⟨_, hh⟩ | ⟨b, sp, c1, c2⟩
    · have : fs = [] := by simpa using hh
      subst this; simp at hn
    · exact ⟨b, sp, by simpa using c1, c2⟩
  refine ⟨h1, op, ct, p1, r1.ref, q2, w1, w3 k hk, hrr, ?_⟩
  have ht : Touch h1 (h1.set (vb y.own) (.cells 1 op (ct.set k [.int .u64 x]))) [vb y.own] := Touch.set (by simp)
  have p4 := p2.touch ht fun b hb => by simp at hb; subst hb; rw [v1]; simp [isP]
  refine ⟨_, _, _, _, fun j => if j = y.own then upd (vs j) k x else vs j, _, _, _, Inv.of p4 (?_ : RInv _ bx l fs _ vb sv _) ?_⟩
  · refine {
      ref := r1.ref.touch ht r1.rbx.2 (by simp; intro hh; rw [← hh, r1.rbx.1] at v1; cases v1), rrows := r1.rrows.touch ht (fun b hb => ⟨(r1.rl b hb).2, by simp; intro hh; rw [← hh, (r1.rl b hb).1] at v1; cases v1⟩), len := r1.len, own := r1.own, stk := r1.stk, vars := ?_, svs := ?_,
      rbx := r1.rbx, rl := r1.rl, rvb := r1.rvb, rsv := r1.rsv }
    · intro j w hj ho
      by_cases hjo : j = y.own
      · subst hjo
        simp only [if_pos]
        exact WordsAt.set (op := op) w2 w3 hk
      · simp only [if_neg hjo]
        refine (r1.vars j w hj ho).same (ht.2 _ (r1.rvb j w hj ho).2 ?_)
        simp
        intro hh
        have := (r1.rvb j w hj ho).1
        rw [hh, v1] at this
        exact hjo (by simpa using this.symm)
    · intro j w hj
      refine (r1.svs j w hj).touch ht fun b hb => ⟨(r1.rsv j w hj b hb).2, ?_⟩
      simp
      intro hh
      have := (r1.rsv j w hj b hb).1
      rw [hh, v1] at this
      cases this
  · intro j w hj ho i hi
    have hjl := (List.getElem?_eq_some_iff.1 hj).1
    by_cases hjo : j = y.own
    · subst hjo
      simp only [if_pos, upd]
      by_cases hik : i = k
      · subst hik; simp
      · rw [if_neg (by omega), if_neg hik]
        exact iv.link _ w hj ho i hi
    · simp only [if_neg hjo, upd]
      rw [if_neg (by omega)]
      exact iv.link j w hj ho i hi

theorem do_spec {kind n m x : Int} {v : AV} {ws : List Int} (iv : Inv h bm bw bs bx ls l f fs vs vb sv ρ) (hv : ReadsW h v ws) (hvb : v.blk = none) (hvo : AV.one v = true) (hvr : AV.beq v v = true) (hws : ws.length < 1000) (hL : 1000 < L) :
    ∃ r h', callF tabT.get? L (d + 5) (.fn 9) [.ptr bm 0 0, .ptr bs 0 0, .ptr bx 0 0, .agg [.int .i64 kind, .int .i64 n, .int .i64 m, .int .u64 x, v]] h = .ok r h' ∧ InvE h' bm bw bs bx := by
  suffices hh : ∃ r h', finishF d9.results (evd (callF tabT.get? L (d + 4)) L false d9.body (startEnv [.ptr bm 0 0, .ptr bs 0 0, .ptr bx 0 0, .agg [.int .i64 kind, .int .i64 n, .int .i64 m, .int .u64 x, v]]) h) = .ok r h' ∧ InvE h' bm bw bs bx by
    obtain ⟨r, h', q1, q2⟩ := hh
    exact ⟨r, h', callF_run (fn := d9) rfl rfl q1, q2⟩
  let act : List AV := [.int .i64 kind, .int .i64 n, .int .i64 m, .int .u64 x, v]
  have ig := iv.own_block (.cells 5 false (.list [act]))
  generalize hg : h.new (.cells 5 false (.list [act])) = g at ig
  have hq : role ρ h.next (9, 9) h.next = (9, 9) ∧ h.next < g.next := by rw [← hg]; simp [role]
  have hga : g.get h.next = some (.cells 5 false (.list [act])) := by rw [← hg]; simp [Heap.get_new]
  have lds : ∀ (g' : Heap), g'.get h.next = g.get h.next → loadD g' none (.ptr h.next 0 0) = some (.int .i64 kind) ∧ loadD g' none (.ptr h.next 0 1) = some (.int .i64 n) ∧ loadD g' none (.ptr h.next 0 2) = some (.int .i64 m) ∧
      loadD g' none (.ptr h.next 0 3) = some (.int .u64 x) ∧ loadD g' none (.ptr h.next 0 4) = some v := fun g' he => by
    rw [hga] at he
    exact ⟨loadD_row he, loadD_row he, loadD_row he, loadD_row he, loadD_row he⟩
  obtain ⟨a0, a1, a2, a3, a4⟩ := lds g rfl
  have hvg : ReadsW g v ws := ReadsW.pgo hv hvb
  simp only [act] at hg
  by_cases k0 : kind = 0
  · subst k0
    obtain ⟨b, h1, h2, c1, c2, c3, c4, c5⟩ := both_enter (d := d) (L := L) (m := n) (x := m) ig hq hvg hvb hL
    obtain ⟨b0, b1, b2, b3, b4⟩ := lds h1 c4
    refine ⟨.bool true, h2, ?_, c3⟩
    simp [d9, Env.get_put, newOf, AV.cells, one_int, hvo, hg, a0, a1, a2, a3, a4, c1, b0, b1, b2, b3, b4, c2, hvr, eqAV]
  by_cases k1 : kind = 1
  · subst k1
    obtain ⟨b, h1, h2, c1, c2, c3, c4, c5⟩ := both_filter (d := d) (L := L) (k := n) (x := x) ig hq hL
    obtain ⟨b0, b1, b2, b3, b4⟩ := lds h1 c4
    refine ⟨.bool true, h2, ?_, c3⟩
    simp [d9, Env.get_put, newOf, AV.cells, one_int, hvo, hg, a0, a1, a2, a3, a4, c1, b0, b1, b2, b3, b4, c2, hvr, eqAV]
  by_cases k2 : kind = 2
  · subst k2
    obtain ⟨b, h1, h2, c1, c2, c3, c4, c5⟩ := both_leave (d := d) (L := L) ig hq
    refine ⟨.bool true, h2, ?_, c3⟩
    simp [d9, Env.get_put, newOf, AV.cells, one_int, hvo, hg, a0, c1, c2, eqAV]
  by_cases k3 : kind = 3
  · subst k3
    obtain ⟨b, h1, h2, c1, c2, c3, c4, c5⟩ := both_push (d := d) (L := L) ig hq hvg hvb hws hL
    obtain ⟨b0, b1, b2, b3, b4⟩ := lds h1 c4
    refine ⟨.bool true, h2, ?_, c3⟩
    simp [d9, Env.get_put, newOf, AV.cells, one_int, hvo, hg, a0, a1, a2, a3, a4, c1, b0, b1, b2, b3, b4, c2, hvr, eqAV]
  by_cases k4 : kind = 4
  · subst k4
    obtain ⟨v1, v2, h1, h2, us, c1, c2, c3, c4, c5, c6, c7, c8⟩ := both_pop (d := d) (L := L) (k := n) ig hq hL
    obtain ⟨b0, b1, b2, b3, b4⟩ := lds h1 c4
    have hsw := swords2_spec (d := d + 3) (L := L) c6 c7 (by omega) hL
    refine ⟨.bool true, h2, ?_, c3⟩
    simp [d9, Env.get_put, newOf, AV.cells, one_int, hvo, hg, a0, a1, c1, b0, b1, c2, hsw]
  by_cases k5 : kind = 5
  · subst k5
    obtain ⟨h1, h2, c1, c2, c3, c4, c5⟩ := both_clear (d := d) (L := L) (k := n) ig hq
    obtain ⟨b0, b1, b2, b3, b4⟩ := lds h1 c4
    refine ⟨.bool true, h2, ?_, c3⟩
    simp [d9, Env.get_put, newOf, AV.cells, one_int, hvo, hg, a0, a1, c1, b0, b1, c2]
  by_cases k6 : kind = 6
  · subst k6
    obtain ⟨h1, h2, c1, c2, c3, c4, c5⟩ := both_move (d := d) (L := L) (k := n) (x := m) ig hq
    obtain ⟨b0, b1, b2, b3, b4⟩ := lds h1 c4
    refine ⟨.bool true, h2, ?_, c3⟩
    simp [d9, Env.get_put, newOf, AV.cells, one_int, hvo, hg, a0, a1, a2, c1, b0, b1, b2, c2]
  by_cases k7 : kind = 7
  · subst k7
    have hfin : InvE g bm bw bs bx := ⟨_, _, _, _, _, _, _, _, ig⟩
    have hrl := ig.rlen
    have hlx := loadD_row (k := none) (off := 1) ig.ref
    simp at hlx
    have hlen := ig.len
    cases hn : fs.length with
    | zero =>
      have hvar := var0_spec (d := d + 1) (L := L) (k := n) ig.stack (by rw [ig.plen, hn])
      rw [hn] at hrl
      refine ⟨.bool true, g, ?_, hfin⟩
      by_cases n0 : n < 0
      · simp [d9, Env.get_put, newOf, AV.cells, one_int, hvo, hg, a0, a1, hvar, n0]
      · by_cases n1 : 152 ≤ n
        · simp [d9, Env.get_put, newOf, AV.cells, one_int, hvo, hg, a0, a1, hvar, n0, n1]
        · simp [d9, Env.get_put, newOf, AV.cells, one_int, hvo, hg, a0, a1, hvar, n0, n1, hlx, hrl]
    | succ N =>
      obtain ⟨y, hy⟩ : ∃ y, fs[N]? = some y := ⟨fs[N], by simp [hn]⟩
      obtain ⟨c0, sp, hl0, hr⟩ := ig.prow (by omega)
      have hst := ig.stack
      rw [hl0, hn] at hst
      by_cases n0 : n < 0 ∨ 152 ≤ n
      · have hvar := var_no (d := d + 1) (L := L) hst (by omega) n0
        refine ⟨.bool true, g, ?_, hfin⟩
        by_cases n1 : n < 0
        · simp [d9, Env.get_put, newOf, AV.cells, one_int, hvo, hg, a0, a1, hvar, n1]
        · have n2 : 152 ≤ n := by omega
          simp [d9, Env.get_put, newOf, AV.cells, one_int, hvo, hg, a0, a1, hvar, n1, n2]
      · obtain ⟨k, rfl⟩ := Int.eq_ofNat_of_zero_le (by omega : 0 ≤ n)
        have hk : k < 152 := by omega
        have hpn : (fs.mapIdx pRow ++ sp)[N]? = some (pRow N y) := by rw [List.getElem?_append_left (by simp; omega)]; simp [hy]
        have hol := (ig.own N y hy).1
        have hvar := var_spec (d := d + 1) (L := L) (k := k) hst hr (by omega) hpn hk (by omega)
        obtain ⟨h1, op, ct, p1, p2, p3, p4, p5, ⟨b, sr, p6, p7⟩, p8⟩ := do7 (d := d) (L := L) (x := x) ig hq hn hy hk
        obtain ⟨b0, b1, b2, b3, b4⟩ := lds h1 p3
        have hlx1 := loadD_row (k := none) (off := 1) p2
        simp at hlx1
        obtain ⟨o1, z, o2, o3⟩ := ig.own N y hy
        have hol2 : y.own < fs.length := (List.getElem?_eq_some_iff.1 o2).1
        have hrk : ∀ j w, fs[j]? = some w → (fs.mapIdx (rRow vb sv) ++ sr)[j]? = some (rRow vb sv j w) := fun j w hj => by
          have hlt := (List.getElem?_eq_some_iff.1 hj).1
          rw [List.getElem?_append_left (by simpa using hlt)]; simp [hj]
        have lr2 := loadD_at (k := none) (off := 2) p7 (i := N) (y := rRow vb sv N y) (by simp only [Ct.get?]; exact hrk N y hy)
        have lr3 := loadD_at (k := none) (off := 3) p7 (i := y.own) (y := rRow vb sv y.own z) (by simp only [Ct.get?]; exact hrk y.own z o2)
        simp [rRow, o3] at lr2 lr3
        have hst2 := storeD_at (n := 1) (off := 0) (x := .int .u64 x) (y' := [.int .u64 x]) p4 p5 rfl
        have e1 : ((k : Int) < 0) = False := by simp
        have e2 : ((152 : Int) ≤ k) = False := by simp; omega
        have e3 : ((N : Int) + 1 = 0) = False := by simp; omega
        have e4 : IntKind.i64.wrap (N : Int) = N := wrap_i64 (by omega) (by omega)
        have hNl : N < fs.length := by omega
        have hlx' := hlx
        rw [p6] at hlx hlx1
        have hrl2 : lenD g .sl (.slice 5 b 0 fs.length none) = some (N + 1) := by simp [lenD, hn]
        have hrl3 : lenD h1 .sl (.slice 5 b 0 fs.length none) = some (N + 1) := by simp [lenD, hn]
        push_cast at hvar p1
        refine ⟨.bool true, h1.set (vb y.own) (.cells 1 op (ct.set k [.int .u64 x])), ?_, p8⟩
        simp [d9, Env.get_put, newOf, AV.cells, one_int, hvo, hg, a0, a1, a3, hvar, e1, e2, hlx, hlx1, hrl2, hrl3, e3, e4, p1, b1, b3, hNl, hol2, lr2, lr3, hk, hst2]
  · refine ⟨.bool true, g, ?_, ⟨_, _, _, _, _, _, _, _, ig⟩⟩
    simp [d9, Env.get_put, newOf, AV.cells, one_int, hvo, hg, a0, k0, k1, k2, k3, k4, k5, k6, k7]
end
end Go.D.FB
namespace Go.D.FB
open Go.D
set_option maxRecDepth 100000

/-- a slice of numbers that nobody writes -/
inductive ImmW : AV → List Int → Prop
  | nils : ImmW .nils []
  | emps : ImmW .emps []
  | isl (ws : List Int) : ImmW (.isl 1 (encW ws)) ws
theorem ImmW.reads {v : AV} {ws : List Int} (h : ImmW v ws) {g : Heap} : ReadsW g v ws := by
  cases h with
  | nils => exact .nils
  | emps => exact .emps
  | isl => exact .isl ws
theorem ImmW.blk {v : AV} {ws : List Int} (h : ImmW v ws) : v.blk = none := by cases h <;> rfl
theorem ImmW.one {v : AV} {ws : List Int} (h : ImmW v ws) : AV.one v = true := by cases h <;> rfl
theorem encW_beq : ∀ ws : List Int, AV.beqss (encW ws) (encW ws) = true
  | [] => by simp [encW, AV.beqss]
  | w :: ws => by
    have := encW_beq ws
    simp only [encW, List.map_cons, AV.beqss, AV.beqs, beq_int, Bool.and_true, Bool.true_and] at this ⊢
    exact this
theorem ImmW.beq {v : AV} {ws : List Int} (h : ImmW v ws) : AV.beq v v = true := by
  cases h with
  | nils => simp
  | emps => simp
  | isl => simp [AV.beq, encW_beq]

/-- an act -/
structure Act where
  kind : Int
  n : Int
  m : Int
  x : Int
  v : AV
  ws : List Int
def encA (a : Act) : List AV := [.int .i64 a.kind, .int .i64 a.n, .int .i64 a.m, .int .u64 a.x, a.v]
inductive ImmA : AV → List Act → Prop
  | nils : ImmA .nils []
  | emps : ImmA .emps []
  | isl (as : List Act) : ImmA (.isl 5 (as.map encA)) as
theorem ImmA.len {v : AV} {as : List Act} (h : ImmA v as) {g : Heap} : lenD g .sl v = some as.length := by
  cases h <;> simp [lenD]
theorem ImmA.at_ {v : AV} {as : List Act} (h : ImmA v as) {k : Nat} {a : Act} (ha : as[k]? = some a) : iadV 5 v k = some (.iptr (encA a) 0) := by
  cases h with
  | nils => simp at ha
  | emps => simp at ha
  | isl => simp [iadV, ha]

section
variable {d L : Nat} {h g h1 h2 : Heap} {bm bw bs bx q : Nat} {ls l : AV} {f : Nat → Int} {fs : List Fm} {vs : Nat → Nat → Int} {vb : Nat → Nat} {sv : Nat → AV} {ρ ρ1 ρ2 ρ' : Nat → Nat × Nat} {T : List Nat}

theorem loop_x {body : Env → Heap → Out} {o : Out} {x : Ex} {e : Env} (hx : x ≠ .norm) (hr : rounds body L e h = o) (n : Nat) (I : Nat → Env → Heap → Prop) {J : Env → Heap → Prop} (hL : n < L) (h0 : I 0 e h)
    (hstep : ∀ k, k < n → ∀ e h, I k e h → ∃ e' h', body e h = .go .norm e' h' ∧ I (k + 1) e' h')
    (hend : ∀ e h, I n e h → ∃ e' h', body e h = .go x e' h' ∧ J e' h') : ∃ e' h', o = .go x e' h' ∧ J e' h' := by
  subst hr
  refine rounds_inv (Q := fun o => ∃ e' h', o = .go x e' h' ∧ J e' h') hL hstep (fun e h hi => ?_) h0
  obtain ⟨e', h', q1, q2⟩ := hend e h hi
  exact ⟨_, q1, fun _ _ hh => hx (by cases hh; rfl), e', h', rfl, q2⟩

theorem first_bad {p : Nat → Prop} : ∀ {n : Nat}, (∃ k, k < n ∧ p k) → ∃ k, k < n ∧ p k ∧ ∀ j, j < k → ¬ p j := by
  intro n ⟨k, hk, hp⟩
  induction k using Nat.strongRecOn with
  | _ k ih =>
    by_cases hh : ∃ j, j < k ∧ p j
    · obtain ⟨j, hj, hpj⟩ := hh
      exact ih j hj (by omega) hpj
    · exact ⟨k, hk, hp, fun j hj hpj => hh ⟨j, hj, hpj⟩⟩

theorem long_yes {la : AV} {as : List Act} (ha : ImmA la as) (hi : ∀ a ∈ as, ImmW a.v a.ws) (hL : 1000 < L) (hl : 40 < as.length ∨ ∃ a ∈ as, 200 < a.ws.length) :
    callF tabT.get? L (d + 1) (.fn 6) [la] h = .ok (.bool true) h := by
  refine callF_run (fn := d6) rfl rfl ?_
  by_cases h1 : 40 < as.length
  · have e1 : ((40 : Int) < as.length) = True := by simp; omega
    simp [d6, Env.get_put, ha.len, e1]
  · have e1 : ((40 : Int) < as.length) = False := by simp; omega
    obtain ⟨a, ham, haw⟩ : ∃ a ∈ as, 200 < a.ws.length := by
      rcases hl with hl | hl
      · omega
      · exact hl
    obtain ⟨k0, hk0, hka⟩ := List.getElem_of_mem ham
    obtain ⟨n, hn, ⟨b, hb, hbw⟩, hmin⟩ := first_bad (n := as.length) (p := fun k => ∃ b, as[k]? = some b ∧ 200 < b.ws.length) ⟨k0, hk0, a, by simp [hk0, hka], haw⟩
    simp [d6, Env.get_put, ha.len, e1]
    generalize hrr : rounds _ _ _ _ = o
    obtain ⟨e', h', rfl, j1, j2, j3⟩ : ∃ e' h', o = .go .ret e' h' ∧ noDs e' = true ∧ e'.get 2 = .bool true ∧ h' = h := by
      refine loop_x (by simp) hrr n (fun k e g => noDs e = true ∧ e.get 0 = la ∧ e.get 8 = .int .i64 as.length ∧ e.get 9 = .int .i64 k ∧ g = h) (by omega) ?_ ?_ ?_
      · simp [Env.get_put]
      · rintro k hk e g ⟨i1, i2, i3, i4, rfl⟩
        obtain ⟨c, hc⟩ : ∃ c, as[k]? = some c := ⟨as[k], by simp [show k < as.length by omega]⟩
        have hcw : ¬ 200 < c.ws.length := fun hh => hmin k hk ⟨c, hc, hh⟩
        have e2 : ((k : Int) < as.length) = True := by simp; omega
        have e3 : ((200 : Int) < c.ws.length) = False := by simp; omega
        have e5 : IntKind.i64.wrap ((k : Int) + 1) = (k : Int) + 1 := wrap_i64 (by omega) (by omega)
        have hcl := (hi c (List.mem_of_getElem? hc)).reads (g := g) |>.len
        apply ex2
        · simp [Env.get_put, i2, i3, i4, e2, e3, e5, ha.at_ hc, loadD, encA, hcl]
          exact ⟨rfl, rfl⟩
        · simp [Env.get_put, i1, i2, i3]
      · rintro e g ⟨i1, i2, i3, i4, rfl⟩
        have e2 : ((n : Int) < as.length) = True := by simp; omega
        have e3 : ((200 : Int) < b.ws.length) = True := by simp; omega
        have hcl := (hi b (List.mem_of_getElem? hb)).reads (g := g) |>.len
        apply ex2
        · simp [Env.get_put, i2, i3, i4, e2, e3, ha.at_ hb, loadD, encA, hcl]
          exact ⟨rfl, rfl⟩
        · simp [Env.get_put, i1]
    subst j3
    simp [j1, j2]

theorem long_no {la : AV} {as : List Act} (ha : ImmA la as) (hi : ∀ a ∈ as, ImmW a.v a.ws) (hL : 1000 < L) (h1 : as.length ≤ 40) (h2 : ∀ a ∈ as, a.ws.length ≤ 200) :
    callF tabT.get? L (d + 1) (.fn 6) [la] h = .ok (.bool false) h := by
  refine callF_run (fn := d6) rfl rfl ?_
  have e1 : ((40 : Int) < as.length) = False := by simp; omega
  simp [d6, Env.get_put, ha.len, e1]
  generalize hrr : rounds _ _ _ _ = o
  obtain ⟨e', h', rfl, j1, j3⟩ : ∃ e' h', o = .go (.exit 0) e' h' ∧ noDs e' = true ∧ h' = h := by
    refine loop_exit (id := 0) hrr as.length (fun k e g => noDs e = true ∧ e.get 0 = la ∧ e.get 8 = .int .i64 as.length ∧ e.get 9 = .int .i64 k ∧ g = h) (by omega) ?_ ?_ ?_
    · simp [Env.get_put]
    · rintro k hk e g ⟨i1, i2, i3, i4, rfl⟩
      obtain ⟨c, hc⟩ : ∃ c, as[k]? = some c := ⟨as[k], by simp [hk]⟩
      have hcw := h2 c (List.mem_of_getElem? hc)
      have e2 : ((k : Int) < as.length) = True := by simp; omega
      have e3 : ((200 : Int) < c.ws.length) = False := by simp; omega
      have e5 : IntKind.i64.wrap ((k : Int) + 1) = (k : Int) + 1 := wrap_i64 (by omega) (by omega)
      have hcl := (hi c (List.mem_of_getElem? hc)).reads (g := g) |>.len
      apply ex2
      · simp [Env.get_put, i2, i3, i4, e2, e3, e5, ha.at_ hc, loadD, encA, hcl]
        exact ⟨rfl, rfl⟩
      · simp [Env.get_put, i1, i2, i3]
    · rintro e g ⟨i1, i2, i3, i4, rfl⟩
      apply ex2
      · simp [Env.get_put, i3, i4]
        exact ⟨rfl, rfl⟩
      · simp [i1]
  subst j3
  simp [j1, Env.get_put]
end
end Go.D.FB
namespace Go.D.FB
open Go.D
set_option maxRecDepth 100000
section
variable {d L : Nat} {h g h1 h2 : Heap} {bm bw bs bx q : Nat} {ls l : AV} {f : Nat → Int} {fs : List Fm} {vs : Nat → Nat → Int} {vb : Nat → Nat} {sv : Nat → AV} {ρ ρ1 ρ2 ρ' : Nat → Nat × Nat} {T : List Nat}

theorem law_push {v : AV} {ws : List Int} (iv : Inv h bm bw bs bx ls l f fs vs vb sv ρ) (hv : ImmW v ws) (hws : ws.length ≤ 90) (hL : 1000 < L) :
    callF tabT.get? L (d + 5) (.fn 10) [.ptr bs 0 0, v] h = .ok (.bool false) h ∨
    ∃ h1 h2 h3 h4 u out, callF tabT.get? L (d + 5) (.fn 10) [.ptr bs 0 0, v] h = .ok (.bool true) h1 ∧ callF tabT.get? L (d + 5) (.fn 11) [.ptr bx 0 0, v] h1 = .ok (.bool true) h2 ∧
      callF tabT.get? L (d + 5) (.fn 13) [.ptr bs 0 0, .int .i64 ws.length] h2 = .ok u h3 ∧ callF tabT.get? L (d + 5) (.fn 12) [u, v] h3 = .ok (.bool true) h3 ∧
      callF tabT.get? L (d + 5) (.fn 14) [.ptr bx 0 0, .int .i64 ws.length] h3 = .ok out h4 ∧ InvE h4 bm bw bs bx := by
  cases hn : fs.length with
  | zero => exact .inl (push0_spec (d := d + 2) iv.stack (by rw [iv.plen, hn]))
  | succ n =>
    obtain ⟨y, hy⟩ : ∃ y, fs[n]? = some y := ⟨fs[n], by simp [hn]⟩
    have hlen := iv.len
    by_cases hc : y.stk.length + ws.length ≤ 96
    · obtain ⟨h1, f1, T1, p1, p2, p3, p4⟩ := p_push (d := d + 2) (L := L) iv.p hn hy hv.reads hv.blk hc hL
      obtain ⟨h2, sv2, ρ2, T2, r1, r2, r3⟩ := r_push (d := d + 4) (L := L) (r_at iv.r p3) hn hy hv.reads hc
      have hy' : (fs.set n { y with stk := y.stk ++ ws })[n]? = some { y with stk := y.stk ++ ws } := by rw [List.getElem?_set]; simp [hn]
      obtain ⟨h3, b, T3, s1, s2, s3, s4, s5, s6⟩ := p_pop (d := d + 2) (L := L) (k := ws.length) (p_at p2 r3) (by simpa using hn) hy' (by simp) hL
      have hrd := WordsAt.reads s6 (ws := ws) rfl (fun i w hi => by
        have := (p_at p2 r3).stk n _ hy'
        have h2 := this.2 (y.stk.length + i) w (by simp only; rw [List.getElem?_append_right (by omega)]; simpa using hi)
        rw [← h2]; congr 1; simp; omega) (some ws.length)
      have hsw := swords2_spec (d := d + 4) (L := L) hrd hv.reads (by omega) hL
      obtain ⟨h4, sv4, ρ4, out, t1, t2, t3, t4⟩ := r_pop (d := d + 4) (L := L) (k := ws.length) (r_at r2 s3) (by simpa using hn) hy' (by simp)
      refine .inr ⟨h1, h2, h3, h4, _, out, p1, r1, s1, hsw, t1, ⟨_, _, _, _, _, _, _, _, Inv.of (p_at s2 t3) t2 ?_⟩⟩
      refine link_set (link_set iv.link hy rfl fun j i hj hi => p4 j i (by omega) hi) hy' rfl fun j i hj hi => rfl
    · obtain ⟨b0, sp, hl0, hr⟩ := iv.prow (by omega)
      have hst := iv.stack
      rw [hl0, hn] at hst
      have hb0 := iv.p.nls (b := b0) (by rw [hl0]; rfl)
      have hne := iv.p.ne
      have hpn : (fs.mapIdx pRow ++ sp)[n]? = some (pRow n y) := by rw [List.getElem?_append_left (by simp; omega)]; simp [hy]
      exact .inl ((push_spec (d := d + 2) (L := L) iv.mem hst iv.words hr (by omega) hpn (by omega) (by omega) (iv.stk n y hy).1 hv.reads (by omega) hL iv.rbm.2 iv.rbw.2 iv.rbs.2 hb0.1 hne.1 (Ne.symm hb0.2.1) hne.2.1 (Ne.symm hb0.2.2.2) (Ne.symm hb0.2.2.1)
        (fun b hb => by rw [hv.blk] at hb; cases hb)).1 (by omega))

theorem law_enter {v : AV} {ws : List Int} (iv : Inv h bm bw bs bx ls l f fs vs vb sv ρ) (hv : ImmW v ws) (hws : ws.length ≤ 90) (hL : 1000 < L) :
    callF tabT.get? L (d + 5) (.fn 15) [.ptr bs 0 0, .int .i64 1, .int .i64 2, .nils] h = .ok (.bool false) h ∨
    ∃ h1 h2 h3, callF tabT.get? L (d + 5) (.fn 15) [.ptr bs 0 0, .int .i64 1, .int .i64 2, .nils] h = .ok (.bool true) h1 ∧ callF tabT.get? L (d + 5) (.fn 10) [.ptr bs 0 0, v] h1 = .ok (.bool true) h2 ∧
      callF tabT.get? L (d + 5) (.fn 16) [.ptr bs 0 0] h2 = .ok (.bool true) h3 ∧ InvE h3 bm bw bs bx := by
  by_cases hc : fs.length < 64
  · obtain ⟨h1, ls1, f1, ρ1, T1, p1, p2, p3, p4, p5⟩ := p_enter (d := d + 2) (L := L) (m := 1) (x := 2) (v := .nils) (ws := []) iv.p .nils rfl hc (by simp) (by simp) hL
    have hy : (fs ++ [(⟨1, 0, fs.length, []⟩ : Fm)])[fs.length]? = some ⟨1, 0, fs.length, []⟩ := by simp
    obtain ⟨h2, f2, T2, s1, s2, s3, s4⟩ := p_push (d := d + 2) (L := L) p2 (n := fs.length) (by simp) hy hv.reads hv.blk (by simp; omega) hL
    obtain ⟨h3, ls3, T3, t1, t2, t3⟩ := p_leave (d := d + 3) (L := L) s2 (n := fs.length) (by simp)
    have e : ((fs ++ [(⟨1, 0, fs.length, []⟩ : Fm)]).set fs.length { (⟨1, 0, fs.length, []⟩ : Fm) with stk := [] ++ ws }).take fs.length = fs := by
      rw [List.set_append_right _ _ (Nat.le_refl _)]; simp
    rw [e] at t2
    refine .inr ⟨h1, h2, h3, p1, s1, t1, ⟨_, _, _, _, _, _, _, _, Inv.of t2 (r_at (r_at (r_at iv.r p3) s3) t3) ?_⟩⟩
    intro k y hk ho j hj
    have hkl := (List.getElem?_eq_some_iff.1 hk).1
    rw [s4 k j (by omega) hj, p4 _ (by omega)]
    exact iv.link k y hk ho j hj
  · exact .inl (enter_no (d := d + 2) iv.stack iv.rows .nils (by have := iv.len; simp; omega) (.inl (by simp; omega)))

theorem fnew_spec : callF tabT.get? L (d + 1) (.fn 8) [.ptr bm 0 0, .int .i64 64] h = .ok (.ptr h.next 0 0) (h.new (.cells 3 false (.list [[.ptr bm 0 0, .int .i64 64, .nils]]))) := by
  refine callF_run (fn := d8) rfl rfl ?_
  simp [d8, Env.get_put, eqAV, fillC, AV.cells, AV.one, nble, newOf]

theorem pureCall_true {call : Caller} {f : Nat} {hk : Heap} (hc : call (.fn f) [] .empty = .ok (.bool true) hk) : pureCall call f [] h = .ok (.bool true) h := by
  simp only [pureCall, AV.trees, cond_true, hc]
  rfl

theorem law_spec {la wa : AV} {as : List Act} {ws : List Int} (ha : ImmA la as) (hi : ∀ a ∈ as, ImmW a.v a.ws) (hw : ImmW wa ws) (hL : 1000 < L) {hk HM : Heap} (hwk : callF tabT.get? L (d + 5) (.fn 5) [] .empty = .ok (.bool true) hk)
    (hmm : callF tabT.get? L (d + 5) (.fn 7) [] .empty = .ok (.ptr bm 0 0) HM) (hMem : MemAt HM bm bw) (hW : WordsAt HM bw 16396 f) (hbm : bm < HM.next) (hbw : bw < HM.next) (hne : bm ≠ bw) :
    ∃ h', callF tabT.get? L (d + 6) (.fn 3) [la, wa] .empty = .ok (.bool true) h' := by
  suffices hh : ∃ h', finishF d3.results (evd (callF tabT.get? L (d + 5)) L false d3.body (startEnv [la, wa]) .empty) = .ok (.bool true) h' by
    obtain ⟨h', q1⟩ := hh
    exact ⟨h', callF_run (fn := d3) rfl rfl q1⟩
  have hpw := fun h => pureCall_true (h := h) hwk
  by_cases hlong : 40 < as.length ∨ ∃ a ∈ as, 200 < a.ws.length
  · have h6 := long_yes (d := d + 4) (L := L) (h := .empty) ha hi hL hlong
    exact ⟨.empty, by simp [d3, Env.get_put, hpw, h6]⟩
  have h6 := long_no (d := d + 4) (L := L) (h := .empty) ha hi hL (by omega) (fun a h => by
    apply Nat.le_of_not_lt
    intro hh
    exact hlong (.inr ⟨a, h, hh⟩))
  have hwl := (hw.reads (g := .empty)).len
  by_cases hbig : 90 < ws.length
  · have e1 : ((90 : Int) < ws.length) = True := by simp; omega
    exact ⟨.empty, by simp [d3, Env.get_put, hpw, h6, hwl, e1]⟩
  have e1 : ((90 : Int) < ws.length) = False := by simp; omega
  let g1 := HM.new (.cells 3 false (.list [[.ptr bm 0 0, .int .i64 64, .nils]]))
  let g2 := g1.new (.cells 2 false (.list [[.int .i64 64, .nils]]))
  have hn1 : g1.next = HM.next + 1 := rfl
  have hn2 : g2.next = HM.next + 2 := rfl
  have t2 : Touch HM g2 [] := (Touch.new (bs := [])).news
  have iv0 : Inv g2 bm bw HM.next (HM.next + 1) .nils .nils f [] (fun _ _ => 0) (fun _ => 0) (fun _ => .nils) (fun b => if b = bm then (0, 0) else if b = bw then (0, 1) else if b = HM.next then (0, 2) else if b = HM.next + 1 then (0, 3) else (8, 8)) := by
    refine {
      mem := hMem.touch t2 hbm (by simp), stack := ?_, rows := .inl ⟨rfl, rfl⟩, words := hW.same (t2.2 _ hbw (by simp)), ref := ?_, rrows := .inl ⟨rfl, rfl⟩, len := by simp, own := fun k x hk => by simp at hk, stk := fun k x hk => by simp at hk,
      vars := fun k x hk => by simp at hk, svs := fun k x hk => by simp at hk, rbm := ⟨by simp, by omega⟩, rbw := ⟨by simp [Ne.symm hne], by omega⟩, rbs := ⟨?_, by omega⟩, rbx := ⟨?_, by omega⟩, rls := (fun b hb => by cases hb), rl := (fun b hb => by cases hb),
      rvb := fun k x hk => by simp at hk, rsv := fun k x hk => by simp at hk }
    · simp only [StackAt, g2]
      rw [Heap.get_new, if_neg (by omega)]
      simp [g1, Heap.get_new]
    · simp only [RefAt, g2]
      rw [Heap.get_new, if_pos hn1.symm]
    · have h1 : HM.next ≠ bm := by omega
      have h2 : HM.next ≠ bw := by omega
      simp [h1, h2]
    · have h1 : HM.next + 1 ≠ bm := by omega
      have h2 : HM.next + 1 ≠ bw := by omega
      simp [h1, h2]
  have hfn := fnew_spec (d := d + 4) (L := L) (h := HM) (bm := bm)
  have hal := ha.len (g := g2)
  simp only [g2, g1] at hal
  simp [d3, Env.get_put, hpw, h6, hwl, e1, hmm, hfn, fillC, AV.cells, AV.one, nble, newOf, hal]
  generalize hrr : rounds _ _ _ _ = o
  obtain ⟨e', h', rfl, j1, j2, j3, j4, j5, j6⟩ : ∃ e' h', o = .go (.exit 0) e' h' ∧ noDs e' = true ∧ e'.get 1 = wa ∧ e'.get 5 = .ptr bm 0 0 ∧ e'.get 6 = .ptr HM.next 0 0 ∧ e'.get 7 = .ptr (HM.next + 1) 0 0 ∧ InvE h' bm bw HM.next (HM.next + 1) := by
    refine loop_exit (id := 0) hrr as.length (fun k e g => noDs e = true ∧ e.get 1 = wa ∧ e.get 5 = .ptr bm 0 0 ∧ e.get 6 = .ptr HM.next 0 0 ∧ e.get 7 = .ptr (HM.next + 1) 0 0 ∧ e.get 24 = la ∧ e.get 25 = .int .i64 as.length ∧ e.get 26 = .int .i64 k ∧
      InvE g bm bw HM.next (HM.next + 1)) (by omega) ?_ ?_ ?_
    · simp [Env.get_put]
      exact ⟨_, _, _, _, _, _, _, _, iv0⟩
    · rintro k hk e g ⟨i1, i2, i3, i4, i5, i6, i7, i8, ls, l, f, fs, vs, vb, sv, ρ, iv⟩
      obtain ⟨a, hka⟩ : ∃ a, as[k]? = some a := ⟨as[k], by simp [hk]⟩
      have hai := hi a (List.mem_of_getElem? hka)
      have haw : a.ws.length ≤ 200 := by
        apply Nat.le_of_not_lt
        intro hh
        exact hlong (.inr ⟨a, List.mem_of_getElem? hka, hh⟩)
      let za : List AV := [.int .i64 0, .int .i64 0, .int .i64 0, .int .u64 0, .nils]
      let g3 := g.new (.cells 5 false (.list [za]))
      let g4 := g3.set g.next (.cells 5 false (.list [encA a]))
      have t4 : Touch g g4 [] := (Touch.new (bs := [])).fresh (Nat.le_refl _)
      have iv4 := iv.touch0 t4
      have hst : storeD g3 5 (.ptr g.next 0 0) (.agg (encA a)) = .ok (.tup []) g4 := storeD_row (y := za) (by simp only [g3]; rw [Heap.get_new, if_pos rfl]) (by simp [writeC, AV.cells, encA, one_int, hai.one, za, nble])
      have hld : loadD g4 (some 5) (.ptr g.next 0 0) = some (.agg (encA a)) := by
        rw [loadD_row (y := encA a) (by simp only [g4]; rw [Heap.get_set, if_pos rfl])]; rfl
      obtain ⟨r, h5, c1, c2⟩ := do_spec (d := d) (L := L) (kind := a.kind) (n := a.n) (m := a.m) (x := a.x) iv4 hai.reads hai.blk hai.one hai.beq (by omega) hL
      have e2 : ((k : Int) < as.length) = True := by simp; omega
      have e5 : IntKind.i64.wrap ((k : Int) + 1) = (k : Int) + 1 := wrap_i64 (by omega) (by omega)
      simp only [g3, za, encA] at hst
      simp only [encA] at hld
      have hl1 : ∀ g, loadD g (some 5) (.iptr (encA a) 0) = some (.agg [.int .i64 a.kind, .int .i64 a.n, .int .i64 a.m, .int .u64 a.x, a.v]) := fun _ => rfl
      apply ex2
      · simp [Env.get_put, i3, i4, i5, i6, i7, i8, e2, e5, ha.at_ hka, hl1, hst, hld, c1]
        exact ⟨rfl, rfl⟩
      · simp [Env.get_put, i1, i2, i3, i4, i5, i6, i7]
        exact c2
    · rintro e g ⟨i1, i2, i3, i4, i5, i6, i7, i8, i9⟩
      apply ex2
      · simp [Env.get_put, i7, i8]
        exact ⟨rfl, rfl⟩
      · simp [Env.get_put, i1, i2, i3, i4, i5]
        exact i9
  obtain ⟨ls, l, f, fs, vs, vb, sv, ρ, iv⟩ := j6
  have hwr : ∀ g, lenD g .sl wa = some ws.length := fun g => (hw.reads (g := g)).len
  have hend : ∀ (g : Heap), InvE g bm bw HM.next (HM.next + 1) → ∃ h', callF tabT.get? L (d + 5) (.fn 17) [.ptr bm 0 0, .ptr HM.next 0 0, .ptr (HM.next + 1) 0 0] g = .ok (.bool true) h' := fun g ⟨_, _, _, _, _, _, _, _, iv⟩ => by
    obtain ⟨h', q, _⟩ := same_spec (d := d + 1) (L := L) iv hL
    exact ⟨h', q⟩
  rcases law_push (d := d) (L := L) iv hw (by omega) hL with hp | ⟨h1, h2, h3, h4, u, out, p1, p2, p3, p4, p5, ls, l, f, fs, vs, vb, sv, ρ, iv⟩
  · rcases law_enter (d := d) (L := L) iv hw (by omega) hL with he | ⟨h1, h2, h3, p1, p2, p3, p4⟩
    · obtain ⟨h5, q5⟩ := hend h' ⟨_, _, _, _, _, _, _, _, iv⟩
      exact ⟨h5, by simp [Env.get_put, j1, j2, j3, j4, j5, hp, he, q5]⟩
    · obtain ⟨h5, q5⟩ := hend h3 p4
      exact ⟨h5, by simp [Env.get_put, j1, j2, j3, j4, j5, hp, p1, p2, p3, q5]⟩
  · rcases law_enter (d := d) (L := L) iv hw (by omega) hL with he | ⟨k1, k2, k3, c1, c2, c3, c4⟩
    · obtain ⟨h5, q5⟩ := hend h4 ⟨_, _, _, _, _, _, _, _, iv⟩
      exact ⟨h5, by simp [Env.get_put, j1, j2, j3, j4, j5, p1, p2, p3, p4, p5, hwr, he, q5]⟩
    · obtain ⟨h5, q5⟩ := hend k3 c4
      exact ⟨h5, by simp [Env.get_put, j1, j2, j3, j4, j5, p1, p2, p3, p4, p5, hwr, c1, c2, c3, q5]⟩
end
end Go.D.FB
