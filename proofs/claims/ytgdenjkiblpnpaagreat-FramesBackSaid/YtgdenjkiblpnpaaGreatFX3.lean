/-
  The law FramesBack at the abstract evaluator: its functions, stepped through once each.
-/
import Derived.Test.YtgdenjkiblpnpaaGreatFX2
set_option linter.unusedSimpArgs false
set_option linter.unusedVariables false
namespace Go.D.FB
open Go.D
set_option maxRecDepth 100000
section
variable {d L : Nat} {h g : Heap} {bm bw bs bx : Nat} {ls l : AV} {f : Nat → Int} {fs : List Fm} {vs : Nat → Nat → Int} {vb : Nat → Nat} {sv : Nat → AV} {ρ ρ' : Nat → Nat × Nat}

theorem getD_get {ws : List Int} {i : Nat} {w : Int} (h : ws[i]? = some w) : ws.getD i 0 = w := by simp [List.getD_eq_getElem?_getD, h]

/-- the roles when the row of frames may have been laid anew -/
theorem newrow {ls' : AV} {h' : Heap} (rls : ∀ b, ls.blk = some b → ρ b = (0, 4) ∧ b < h.next) (hb : ls'.blk = ls.blk ∨ ∃ b, ls'.blk = some b ∧ h.next ≤ b ∧ b < h'.next) (hn : h.next ≤ h'.next) (r : Nat × Nat) (hr : r = (0, 4)) :
    ∃ ρ' : Nat → Nat × Nat, (∀ b, b < h.next → ρ' b = ρ b) ∧ ∀ b, ls'.blk = some b → ρ' b = r ∧ b < h'.next := by
  subst hr
  rcases hb with hb | ⟨b, hb, h1, h2⟩
  · exact ⟨ρ, fun _ _ => rfl, fun b hh => by rw [hb] at hh; obtain ⟨q1, q2⟩ := rls b hh; exact ⟨q1, by omega⟩⟩
  · refine ⟨role ρ b (0, 4), fun x hx => by simp only [role]; rw [if_neg (by omega)], fun x hh => ?_⟩
    have := Option.some.inj (hb.symm.trans hh)
    subst this
    exact ⟨by simp [role], h2⟩
theorem newrowR {l' : AV} {h' : Heap} (rl : ∀ b, l.blk = some b → ρ b = (0, 5) ∧ b < h.next) (hb : l'.blk = l.blk ∨ l'.blk = none ∨ ∃ b, l'.blk = some b ∧ h.next ≤ b ∧ b < h'.next) (hn : h.next ≤ h'.next) :
    ∃ ρ' : Nat → Nat × Nat, (∀ b, b < h.next → ρ' b = ρ b) ∧ (∀ b, l'.blk = some b → ρ' b = (0, 5) ∧ b < h'.next) ∧ ∀ b, l'.blk ≠ some b → ρ' b = ρ b := by
  rcases hb with hb | hb | ⟨b, hb, h1, h2⟩
  · exact ⟨ρ, fun _ _ => rfl, fun b hh => by rw [hb] at hh; obtain ⟨q1, q2⟩ := rl b hh; exact ⟨q1, by omega⟩, fun _ _ => rfl⟩
  · exact ⟨ρ, fun _ _ => rfl, (fun b hh => by rw [hb] at hh; cases hh), fun _ _ => rfl⟩
  · refine ⟨role ρ b (0, 5), fun x hx => by simp only [role]; rw [if_neg (by omega)], fun x hh => ?_, fun x hh => ?_⟩
    · have := Option.some.inj (hb.symm.trans hh)
      subst this
      exact ⟨by simp [role], h2⟩
    · simp only [role]
      rw [if_neg]
      intro hx
      exact hh (by rw [hx]; exact hb)

theorem p_enter {v : AV} {ws : List Int} {m x : Int} (i : PInv h bm bw bs ls f fs ρ) (hv : ReadsW h v ws) (hvb : v.blk = none) (h1 : fs.length < 64) (h2 : ¬ x < ws.length) (h3 : ¬ 152 < x) (hL : 1000 < L) :
    ∃ h' ls' f' ρ' T, callF tabT.get? L (d + 3) (.fn 15) [.ptr bs 0 0, .int .i64 m, .int .i64 x, v] h = .ok (.bool true) h' ∧ PInv h' bm bw bs ls' f' (fs ++ [⟨m, 0, fs.length, []⟩]) ρ' ∧ PGo h h' ρ ρ' T ∧
      (∀ j, j < 12 + 256 * fs.length → f' j = f j) ∧ ∀ j, j < 152 → f' (12 + 256 * fs.length + j) = ws.getD j 0 := by
  have hne := i.ne
  obtain ⟨h', ls', p1, p2, p3, p4, p5, p6⟩ := enter_spec (d := d) (L := L) (m := m) (x := x) i.mem i.stack i.rows i.words hv (by simpa using h1) h2 h3 hL i.rbm.2 i.rbw.2 i.rbs.2 hne.1 hne.2.1 hne.2.2 (fun b hb => i.nls hb) (fun b hb => by rw [hvb] at hb; cases hb)
  obtain ⟨ρ', r1, r2⟩ := newrow i.rls p6 p5.1 (0, 4) rfl
  have hwl : ws.length ≤ 152 := by omega
  simp only [List.length_mapIdx] at p3 p4
  have hf1 : ∀ j, j < 12 + 256 * fs.length → lay (lay f (12 + 256 * fs.length) [] 256) (12 + 256 * fs.length) ws ws.length j = f j := fun j hj => by
    unfold lay; rw [if_neg (by omega), if_neg (by omega)]
  refine ⟨h', ls', _, ρ', bw :: bs :: ls.blk.toList, p1, ?_, ⟨p5, ?_, r1⟩, hf1, ?_⟩
  · refine {
      mem := ?_, stack := p2, rows := ?_, words := p4, len := by simp; omega, stk := ?_, rbm := ⟨by rw [r1 _ i.rbm.2]; exact i.rbm.1, Nat.lt_of_lt_of_le i.rbm.2 p5.1⟩,
      rbw := ⟨by rw [r1 _ i.rbw.2]; exact i.rbw.1, Nat.lt_of_lt_of_le i.rbw.2 p5.1⟩, rbs := ⟨by rw [r1 _ i.rbs.2]; exact i.rbs.1, Nat.lt_of_lt_of_le i.rbs.2 p5.1⟩, rls := r2 }
    · refine i.mem.touch p5 i.rbm.2 ?_
      simp
      exact ⟨hne.1, hne.2.2, fun hh => (i.nls hh).2.1 rfl⟩
    · rw [mapIdx_snoc]
      have : pRow fs.length ⟨m, 0, fs.length, []⟩ = newP m 0 (12 + 256 * fs.length) (12 + 256 * fs.length) := by simp [pRow, newP]
      rw [this]; exact p3
    · intro k y hk
      rw [List.getElem?_append] at hk
      split at hk
      · rename_i hlt
        obtain ⟨s1, s2⟩ := i.stk k y hk
        refine ⟨s1, fun j w hj => ?_⟩
        have := (List.getElem?_eq_some_iff.1 hj).1
        rw [hf1 _ (by omega)]
        exact s2 j w hj
      · rename_i hge
        have hk0 : k - fs.length = 0 := by
          have := (List.getElem?_eq_some_iff.1 hk).1
          simp at this; omega
        rw [hk0] at hk
        simp at hk
        subst hk
        simp
  · intro b hb
    simp at hb
    rcases hb with rfl | rfl | hb
    · exact ⟨by rw [i.rbw.1]; simp [isP], i.rbw.2⟩
    · exact ⟨by rw [i.rbs.1]; simp [isP], i.rbs.2⟩
    · exact ⟨by rw [(i.rls b hb).1]; simp [isP], (i.rls b hb).2⟩
  · intro j hj
    unfold lay
    by_cases hlt : j < ws.length
    · rw [if_pos (by omega)]
      congr 1; omega
    · rw [if_neg (by omega), if_pos (by omega)]
      have : ws[j]? = none := List.getElem?_eq_none (by omega)
      simp [List.getD_eq_getElem?_getD, this]

theorem p_filter {k : Nat} {y : Fm} {x : Int} (i : PInv h bm bw bs ls f fs ρ) (h1 : fs.length < 64) (hk : fs[k]? = some y) (hL : 1000 < L) :
    ∃ h' ls' f' ρ' T, callF tabT.get? L (d + 4) (.fn 30) [.ptr bs 0 0, .int .i64 k, .int .u64 x] h = .ok (.bool true) h' ∧ PInv h' bm bw bs ls' f' (fs ++ [⟨y.m, y.a, y.own, [x]⟩]) ρ' ∧ PGo h h' ρ ρ' T ∧
      ∀ j, j < 12 + 256 * fs.length → f' j = f j := by
  have hne := i.ne
  have hkl : k < fs.length := (List.getElem?_eq_some_iff.1 hk).1
  obtain ⟨h', ls', p1, p2, p3, p4, p5, p6⟩ := filter_spec (d := d) (L := L) (x := x) i.mem i.stack i.rows i.words (by simpa using h1) (by simpa using hkl) (show (fs.mapIdx pRow)[k]? = some (pRow k y) by simp [hk]) hL
    i.rbm.2 i.rbw.2 i.rbs.2 hne.1 hne.2.1 hne.2.2 (fun b hb => i.nls hb)
  obtain ⟨ρ', r1, r2⟩ := newrow i.rls p6 p5.1 (0, 4) rfl
  simp only [List.length_mapIdx] at p3 p4
  have hf1 : ∀ j, j < 12 + 256 * fs.length → lay (lay f (12 + 256 * fs.length) [] 256) (12 + 256 * fs.length + 152) [x] 1 j = f j := fun j hj => by
    unfold lay; rw [if_neg (by omega), if_neg (by omega)]
  refine ⟨h', ls', _, ρ', bw :: bs :: ls.blk.toList, p1, ?_, ⟨p5, ?_, r1⟩, hf1⟩
  · refine {
      mem := ?_, stack := p2, rows := ?_, words := p4, len := by simp; omega, stk := ?_, rbm := ⟨by rw [r1 _ i.rbm.2]; exact i.rbm.1, Nat.lt_of_lt_of_le i.rbm.2 p5.1⟩,
      rbw := ⟨by rw [r1 _ i.rbw.2]; exact i.rbw.1, Nat.lt_of_lt_of_le i.rbw.2 p5.1⟩, rbs := ⟨by rw [r1 _ i.rbs.2]; exact i.rbs.1, Nat.lt_of_lt_of_le i.rbs.2 p5.1⟩, rls := r2 }
    · refine i.mem.touch p5 i.rbm.2 ?_
      simp
      exact ⟨hne.1, hne.2.2, fun hh => (i.nls hh).2.1 rfl⟩
    · rw [mapIdx_snoc]
      have : pRow fs.length ⟨y.m, y.a, y.own, [x]⟩ = [.int .i64 y.m, .int .i64 y.a, .int .u64 ((12 + 256 * y.own : Nat) : Int), .int .u64 (((12 + 256 * fs.length : Nat) : Int) + 152), .int .i64 1] := by simp [pRow]
      rw [this]; exact p3
    · intro k y hk
      rw [List.getElem?_append] at hk
      split at hk
      · rename_i hlt
        obtain ⟨s1, s2⟩ := i.stk k y hk
        refine ⟨s1, fun j w hj => ?_⟩
        have := (List.getElem?_eq_some_iff.1 hj).1
        rw [hf1 _ (by omega)]
        exact s2 j w hj
      · rename_i hge
        have hk0 : k - fs.length = 0 := by
          have := (List.getElem?_eq_some_iff.1 hk).1
          simp at this; omega
        have hkk : k = fs.length := by omega
        rw [hk0] at hk
        simp at hk
        subst hk
        refine ⟨by simp, fun j w hj => ?_⟩
        have hj0 := (List.getElem?_eq_some_iff.1 hj).1
        have hj1 : j = 0 := by simpa using hj0
        subst hj1
        simp at hj
        subst hj
        rw [hkk]
        simp [lay]
  · intro b hb
    simp at hb
    rcases hb with rfl | rfl | hb
    · exact ⟨by rw [i.rbw.1]; simp [isP], i.rbw.2⟩
    · exact ⟨by rw [i.rbs.1]; simp [isP], i.rbs.2⟩
    · exact ⟨by rw [(i.rls b hb).1]; simp [isP], (i.rls b hb).2⟩

theorem p_leave {n : Nat} (i : PInv h bm bw bs ls f fs ρ) (hn : fs.length = n + 1) :
    ∃ h' ls' T, callF tabT.get? L (d + 2) (.fn 16) [.ptr bs 0 0] h = .ok (.bool true) h' ∧ PInv h' bm bw bs ls' f (fs.take n) ρ ∧ PGo h h' ρ ρ T := by
  obtain ⟨b0, sp, rfl, hr⟩ := i.prow (by omega)
  have hlen := i.len
  have hst := i.stack
  rw [hn] at hst
  have hb0 := i.nls (b := b0) rfl
  have p1 := leave_spec (d := d) (L := L) hst hr (by omega) (by simp; omega)
  have ht : Touch h (h.set bs (.cells 3 false (.list [[.ptr bm 0 0, .int .i64 64, .slice 5 b0 0 n none]]))) [bs] := Touch.set (by simp)
  have hne := i.ne
  refine ⟨_, .slice 5 b0 0 n none, [bs], p1, ?_, ⟨ht, ?_, fun _ _ => rfl⟩⟩
  · refine {
      mem := i.mem.touch ht i.rbm.2 (by simp [hne.2.2]), stack := by simp [StackAt, Heap.get_set], rows := ?_, words := i.words.same (ht.2 _ i.rbw.2 (by simp [Ne.symm hne.2.1])), len := by simp; omega, stk := ?_,
      rbm := i.rbm, rbw := i.rbw, rbs := i.rbs, rls := fun b hb => i.rls b hb }
    · rw [mapIdx_take]
      refine .inr ⟨b0, (fs.mapIdx pRow).drop n ++ sp, by simp; omega, ?_⟩
      rw [Heap.get_set, if_neg hb0.2.2.2, ← List.append_assoc, List.take_append_drop]
      exact hr
    · intro k y hk
      refine i.stk k y ?_
      rw [List.getElem?_take] at hk
      split at hk
      · exact hk
      · cases hk
  · intro b hb
    simp at hb
    subst hb
    exact ⟨by rw [i.rbs.1]; simp [isP], i.rbs.2⟩

theorem p_push {n : Nat} {y : Fm} {v : AV} {ws : List Int} (i : PInv h bm bw bs ls f fs ρ) (hn : fs.length = n + 1) (hy : fs[n]? = some y) (hv : ReadsW h v ws) (hvb : v.blk = none) (hle : y.stk.length + ws.length ≤ 96) (hL : 1000 < L) :
    ∃ h' f' T, callF tabT.get? L (d + 3) (.fn 10) [.ptr bs 0 0, v] h = .ok (.bool true) h' ∧ PInv h' bm bw bs ls f' (fs.set n { y with stk := y.stk ++ ws }) ρ ∧ PGo h h' ρ ρ T ∧
      ∀ k j, k ≤ n → j < 152 → f' (12 + 256 * k + j) = f (12 + 256 * k + j) := by
  obtain ⟨b0, sp, rfl, hr⟩ := i.prow (by omega)
  have hlen := i.len
  have hst := i.stack
  rw [hn] at hst
  have hb0 := i.nls (b := b0) rfl
  have hne := i.ne
  have hnl : n < fs.length := by omega
  have hpn : (fs.mapIdx pRow ++ sp)[n]? = some (pRow n y) := by rw [List.getElem?_append_left (by simpa using hnl)]; simp [hy]
  obtain ⟨s1, s2⟩ := i.stk n y hy
  obtain ⟨h', p1, p2, p3, p4, p5⟩ := (push_spec (d := d) (L := L) i.mem hst i.words hr (by omega) hpn (by omega) (by omega) s1 hv (by omega) hL i.rbm.2 i.rbw.2 i.rbs.2 hb0.1 hne.1 (Ne.symm hb0.2.1) hne.2.1 (Ne.symm hb0.2.2.2) (Ne.symm hb0.2.2.1)
    (fun b hb => by rw [hvb] at hb; cases hb)).2 hle
  have hf1 : ∀ j, ¬ (12 + 256 * n + 152 + y.stk.length ≤ j ∧ j < 12 + 256 * n + 152 + y.stk.length + ws.length) → lay f (12 + 256 * n + 152 + y.stk.length) ws ws.length j = f j := fun j hj => by
    unfold lay; rw [if_neg hj]
  refine ⟨h', _, [bw, b0], p1, ?_, ⟨p4, ?_, fun _ _ => rfl⟩, fun k j hk hj => hf1 _ (by omega)⟩
  · refine {
      mem := i.mem.touch p4 i.rbm.2 (by simp [hne.1, Ne.symm hb0.2.1]), stack := ?_, rows := ?_, words := p2, len := by simp; omega, stk := ?_, rbm := ⟨i.rbm.1, by rw [p5]; exact i.rbm.2⟩, rbw := ⟨i.rbw.1, by rw [p5]; exact i.rbw.2⟩,
      rbs := ⟨i.rbs.1, by rw [p5]; exact i.rbs.2⟩, rls := fun b hb => ⟨(i.rls b hb).1, by rw [p5]; exact (i.rls b hb).2⟩ }
    · exact i.stack.touch p4 i.rbs.2 (by simp [hne.2.1, Ne.symm hb0.2.2.2])
    · rw [mapIdx_set]
      refine .inr ⟨b0, sp, by simp, ?_⟩
      rw [p3, List.set_append_left _ _ (by simpa using hnl)]
      simp [pRow]
    · intro k z hk
      rw [List.getElem?_set] at hk
      split at hk
      · rename_i hkn
        subst hkn
        simp [hnl] at hk
        subst hk
        refine ⟨by simpa using hle, fun j w hj => ?_⟩
        simp only at hj
        rw [List.getElem?_append] at hj
        split at hj
        · rw [hf1 _ (by omega)]; exact s2 j w hj
        · rename_i hge
          have := (List.getElem?_eq_some_iff.1 hj).1
          unfold lay
          rw [if_pos (by omega)]
          rw [show 12 + 256 * n + 152 + j - (12 + 256 * n + 152 + y.stk.length) = j - y.stk.length by omega]
          exact getD_get hj
      · rename_i hkn
        obtain ⟨t1, t2⟩ := i.stk k z hk
        refine ⟨t1, fun j w hj => ?_⟩
        have := (List.getElem?_eq_some_iff.1 hj).1
        rw [hf1 _ (by omega)]; exact t2 j w hj
  · intro b hb
    simp at hb
    rcases hb with rfl | rfl
    · exact ⟨by rw [i.rbw.1]; simp [isP], i.rbw.2⟩
    · exact ⟨by rw [(i.rls b rfl).1]; simp [isP], (i.rls b rfl).2⟩

theorem p_pop {n k : Nat} {y : Fm} (i : PInv h bm bw bs ls f fs ρ) (hn : fs.length = n + 1) (hy : fs[n]? = some y) (hk : k ≤ y.stk.length) (hL : 1000 < L) :
    ∃ h' b T, callF tabT.get? L (d + 3) (.fn 13) [.ptr bs 0 0, .int .i64 k] h = .ok (.slice 1 b 0 k (some k)) h' ∧ PInv h' bm bw bs ls f (fs.set n { y with stk := y.stk.take (y.stk.length - k) }) ρ ∧ PGo h h' ρ ρ T ∧
      h.next ≤ b ∧ b < h'.next ∧ WordsAt h' b k (fun j => f (12 + 256 * n + 152 + (y.stk.length - k) + j)) := by
  obtain ⟨b0, sp, rfl, hr⟩ := i.prow (by omega)
  have hlen := i.len
  have hst := i.stack
  rw [hn] at hst
  have hb0 := i.nls (b := b0) rfl
  have hne := i.ne
  have hnl : n < fs.length := by omega
  have hpn : (fs.mapIdx pRow ++ sp)[n]? = some (pRow n y) := by rw [List.getElem?_append_left (by simpa using hnl)]; simp [hy]
  obtain ⟨s1, s2⟩ := i.stk n y hy
  obtain ⟨h', p1, p2, p3, p4, p5⟩ := pop_spec (d := d) (L := L) i.mem hst i.words hr (by omega) hpn (by omega) s1 hk hL i.rbm.2 i.rbw.2 i.rbs.2 hb0.1 (Ne.symm hb0.2.1) (Ne.symm hb0.2.2.2) (Ne.symm hb0.2.2.1)
  refine ⟨h', h.next, [b0], p1, ?_, ⟨p4, ?_, fun _ _ => rfl⟩, Nat.le_refl _, p5, p2⟩
  · refine {
      mem := i.mem.touch p4 i.rbm.2 (by simp [Ne.symm hb0.2.1]), stack := i.stack.touch p4 i.rbs.2 (by simp [Ne.symm hb0.2.2.2]), rows := ?_, words := i.words.same (p4.2 _ i.rbw.2 (by simp [Ne.symm hb0.2.2.1])), len := by simp; omega, stk := ?_,
      rbm := ⟨i.rbm.1, Nat.lt_of_lt_of_le i.rbm.2 p4.1⟩, rbw := ⟨i.rbw.1, Nat.lt_of_lt_of_le i.rbw.2 p4.1⟩, rbs := ⟨i.rbs.1, Nat.lt_of_lt_of_le i.rbs.2 p4.1⟩, rls := fun b hb => ⟨(i.rls b hb).1, Nat.lt_of_lt_of_le (i.rls b hb).2 p4.1⟩ }
    · rw [mapIdx_set]
      refine .inr ⟨b0, sp, by simp, ?_⟩
      rw [p3, List.set_append_left _ _ (by simpa using hnl)]
      simp [pRow]
    · intro j z hj
      rw [List.getElem?_set] at hj
      split at hj
      · rename_i hkn
        subst hkn
        simp [hnl] at hj
        subst hj
        refine ⟨by simp; omega, fun q w hq => ?_⟩
        simp only at hq
        rw [List.getElem?_take] at hq
        split at hq
        · exact s2 q w hq
        · cases hq
      · exact i.stk j z hj
  · intro b hb
    simp at hb
    subst hb
    exact ⟨by rw [(i.rls b rfl).1]; simp [isP], (i.rls b rfl).2⟩

theorem p_row {k : Nat} {y z : Fm} {sp : List (List AV)} {b0 : Nat} (i : PInv h bm bw bs ls f fs ρ) (hl : ls = .slice 5 b0 0 fs.length none) (hr : RowsAt h b0 (fs.mapIdx pRow ++ sp)) (hy : fs[k]? = some y)
    (hz : z.stk.length ≤ 96 ∧ ∀ (j : Nat) (w : Int), z.stk[j]? = some w → y.stk[j]? = some w) :
    PInv (h.set b0 (.cells 5 true (.list ((fs.mapIdx pRow ++ sp).set k (pRow k z))))) bm bw bs ls f (fs.set k z) ρ ∧ PGo h (h.set b0 (.cells 5 true (.list ((fs.mapIdx pRow ++ sp).set k (pRow k z))))) ρ ρ [b0] := by
  subst hl
  have hb0 := i.nls (b := b0) rfl
  have hkl : k < fs.length := (List.getElem?_eq_some_iff.1 hy).1
  have ht : Touch h (h.set b0 (.cells 5 true (.list ((fs.mapIdx pRow ++ sp).set k (pRow k z))))) [b0] := Touch.set (by simp)
  refine ⟨?_, ⟨ht, ?_, fun _ _ => rfl⟩⟩
  · refine {
      mem := i.mem.touch ht i.rbm.2 (by simp [Ne.symm hb0.2.1]), stack := i.stack.touch ht i.rbs.2 (by simp [Ne.symm hb0.2.2.2]), rows := ?_, words := i.words.same (ht.2 _ i.rbw.2 (by simp [Ne.symm hb0.2.2.1])), len := by simpa using i.len, stk := ?_,
      rbm := i.rbm, rbw := i.rbw, rbs := i.rbs, rls := i.rls }
    · rw [mapIdx_set]
      exact .inr ⟨b0, sp, by simp, by rw [Heap.get_set, if_pos rfl, List.set_append_left _ _ (by simpa using hkl)]⟩
    · intro j w hj
      rw [List.getElem?_set] at hj
      split at hj
      · rename_i hkn
        subst hkn
        simp [hkl] at hj
        subst hj
        exact ⟨hz.1, fun q w hq => (i.stk _ y hy).2 q w (hz.2 q w hq)⟩
      · exact i.stk j w hj
  · intro b hb
    simp at hb
    subst hb
    exact ⟨by rw [(i.rls b rfl).1]; simp [isP], (i.rls b rfl).2⟩

theorem p_clear {k : Nat} {y : Fm} (i : PInv h bm bw bs ls f fs ρ) (hy : fs[k]? = some y) :
    ∃ h' T, callF tabT.get? L (d + 2) (.fn 33) [.ptr bs 0 0, .int .i64 k] h = .ok (.tup []) h' ∧ PInv h' bm bw bs ls f (fs.set k { y with stk := [] }) ρ ∧ PGo h h' ρ ρ T := by
  have hkl : k < fs.length := (List.getElem?_eq_some_iff.1 hy).1
  obtain ⟨b0, sp, hl, hr⟩ := i.prow (by omega)
  have hst := i.stack
  rw [hl] at hst
  have hpn : (fs.mapIdx pRow ++ sp)[k]? = some (pRow k y) := by rw [List.getElem?_append_left (by simpa using hkl)]; simp [hy]
  have p1 := clear_spec (d := d) (L := L) hst hr hkl hpn
  obtain ⟨q1, q2⟩ := p_row (z := { y with stk := [] }) i hl hr hy ⟨by simp, fun j w hj => by simp at hj⟩
  exact ⟨_, _, p1, q1, q2⟩
theorem p_move {k : Nat} {y : Fm} {x : Int} (i : PInv h bm bw bs ls f fs ρ) (hy : fs[k]? = some y) :
    ∃ h' T, callF tabT.get? L (d + 2) (.fn 35) [.ptr bs 0 0, .int .i64 k, .int .i64 x] h = .ok (.tup []) h' ∧ PInv h' bm bw bs ls f (fs.set k { y with a := x }) ρ ∧ PGo h h' ρ ρ T := by
  have hkl : k < fs.length := (List.getElem?_eq_some_iff.1 hy).1
  obtain ⟨b0, sp, hl, hr⟩ := i.prow (by omega)
  have hst := i.stack
  rw [hl] at hst
  have hpn : (fs.mapIdx pRow ++ sp)[k]? = some (pRow k y) := by rw [List.getElem?_append_left (by simpa using hkl)]; simp [hy]
  have p1 := move_spec (d := d) (L := L) (x := x) hst hr hkl hpn
  obtain ⟨q1, q2⟩ := p_row (z := { y with a := x }) i hl hr hy ⟨(i.stk k y hy).1, fun j w hj => hj⟩
  exact ⟨_, _, p1, q1, q2⟩
theorem p_put {k j : Nat} {x : Int} (i : PInv h bm bw bs ls f fs ρ) (hk : k < fs.length) (hj : j < 152) :
    ∃ h' T, callF tabT.get? L (d + 1) (.fn 38) [.ptr bm 0 0, .int .u64 ((12 + 256 * k + j : Nat) : Int), .int .u64 x] h = .ok (.tup []) h' ∧ PInv h' bm bw bs ls (upd f (12 + 256 * k + j) x) fs ρ ∧ PGo h h' ρ ρ T := by
  have hlen := i.len
  have hne := i.ne
  obtain ⟨h', p1, p2, p3, p4⟩ := put_spec (d := d) (L := L) (at_ := 12 + 256 * k + j) (x := x) i.mem i.words (by omega) (by omega)
  refine ⟨h', [bw], p1, ?_, ⟨p3, ?_, fun _ _ => rfl⟩⟩
  · refine {
      mem := i.mem.touch p3 i.rbm.2 (by simp [hne.1]), stack := i.stack.touch p3 i.rbs.2 (by simp [hne.2.1]), rows := i.rows.touch p3 (fun b hb => ⟨(i.rls b hb).2, by simp; exact (i.nls hb).2.2.1⟩), words := p2, len := hlen, stk := ?_,
      rbm := ⟨i.rbm.1, by rw [p4]; exact i.rbm.2⟩, rbw := ⟨i.rbw.1, by rw [p4]; exact i.rbw.2⟩, rbs := ⟨i.rbs.1, by rw [p4]; exact i.rbs.2⟩, rls := fun b hb => ⟨(i.rls b hb).1, by rw [p4]; exact (i.rls b hb).2⟩ }
    intro q y hq
    obtain ⟨s1, s2⟩ := i.stk q y hq
    refine ⟨s1, fun r w hr => ?_⟩
    have := (List.getElem?_eq_some_iff.1 hr).1
    unfold upd
    rw [if_neg (by omega)]
    exact s2 r w hr
  · intro b hb
    simp at hb
    subst hb
    exact ⟨by rw [i.rbw.1]; simp [isP], i.rbw.2⟩
end
end Go.D.FB
namespace Go.D.FB
open Go.D
set_option maxRecDepth 100000
section
variable {d L : Nat} {h g : Heap} {bm bw bs bx : Nat} {ls l : AV} {f : Nat → Int} {fs : List Fm} {vs : Nat → Nat → Int} {vb : Nat → Nat} {sv : Nat → AV} {ρ ρ' : Nat → Nat × Nat}

theorem mapIdx_congr {α β : Type} {F G : Nat → α → β} {l : List α} (hh : ∀ k x, l[k]? = some x → F k x = G k x) : l.mapIdx F = l.mapIdx G := by
  apply List.ext_getElem?
  intro i
  rw [List.getElem?_mapIdx, List.getElem?_mapIdx]
  cases hx : l[i]? with
  | none => rfl
  | some x => simp only [Option.map_some]; rw [hh i x hx]

theorem RInv.rlen (i : RInv h bx l fs vs vb sv ρ) : lenD h .sl l = some fs.length := by have := i.rrows.len; simpa using this
theorem RInv.nl (i : RInv h bx l fs vs vb sv ρ) {b : Nat} (hb : l.blk = some b) : b < h.next ∧ b ≠ bx := by
  obtain ⟨h1, h2⟩ := i.rl b hb
  exact ⟨h2, fun hh => by rw [hh, i.rbx.1] at h1; cases h1⟩
theorem RInv.get (i : RInv h bx l fs vs vb sv ρ) {k : Nat} {y : Fm} (hk : fs[k]? = some y) : (fs.mapIdx (rRow vb sv))[k]? = some (rRow vb sv k y) := by simp [hk]
theorem RInv.sne (i : RInv h bx l fs vs vb sv ρ) {k : Nat} {y : Fm} (hk : fs[k]? = some y) {b : Nat} (hb : (sv k).blk = some b) : b < h.next ∧ b ≠ bx ∧ l.blk ≠ some b := by
  obtain ⟨h1, h2⟩ := i.rsv k y hk b hb
  refine ⟨h2, (fun hh => by rw [hh, i.rbx.1] at h1; cases h1), fun hh => ?_⟩
  rw [(i.rl b hh).1] at h1; cases h1

theorem snoc_get {α : Type} {l : List α} {x y : α} {k : Nat} (hk : (l ++ [x])[k]? = some y) : (l[k]? = some y ∧ k < l.length) ∨ (k = l.length ∧ y = x) := by
  rw [List.getElem?_append] at hk
  split at hk
  · exact .inl ⟨hk, by assumption⟩
  · have h1 := (List.getElem?_eq_some_iff.1 hk).1
    simp at h1
    have : k - l.length = 0 := by omega
    rw [this] at hk
    simp at hk
    exact .inr ⟨by omega, hk.symm⟩

theorem r_enter {v : AV} {ws : List Int} {m x : Int} (i : RInv h bx l fs vs vb sv ρ) (hv : ReadsW h v ws) (hvb : v.blk = none) (h1 : fs.length < 64) (h2 : ¬ x < ws.length) (h3 : ¬ 152 < x) (hL : 1000 < L) :
    ∃ h' l' vs' vb' sv' ρ' T, callF tabT.get? L (d + 1) (.fn 29) [.ptr bx 0 0, .int .i64 m, .int .i64 x, v] h = .ok (.bool true) h' ∧ RInv h' bx l' (fs ++ [⟨m, 0, fs.length, []⟩]) vs' vb' sv' ρ' ∧ RGo h h' ρ ρ' T ∧
      (∀ k, k < fs.length → vs' k = vs k) ∧ ∀ j, j < 152 → vs' fs.length j = ws.getD j 0 := by
  obtain ⟨h', l', bv, p1, p2, p3, p4, p5, p6, p7, p8, p9⟩ := renter_spec (d := d) (L := L) (m := m) (x := x) i.ref i.rrows hv (by simpa using h1) h2 h3 hL i.rbx.2 (fun b hb => i.nl hb) (fun b hb => by rw [hvb] at hb; cases hb)
  obtain ⟨ρ1, r1, r2, r3⟩ := newrowR (h' := h') i.rl (by rcases p9 with hh | hh; exact .inl hh; exact .inr (.inr hh)) p5.1
  simp only [List.length_mapIdx] at p3
  have hT : ∀ b ∈ bx :: l.blk.toList, isR (ρ b) ∧ b < h.next := fun b hb => by
    simp at hb
    rcases hb with rfl | hb
    · exact ⟨by rw [i.rbx.1]; simp [isR], i.rbx.2⟩
    · exact ⟨by rw [(i.rl b hb).1]; simp [isR], (i.rl b hb).2⟩
  have hold : ∀ b, b < h.next → role ρ1 bv (1, fs.length) b = ρ b := fun b hb => by simp only [role]; rw [if_neg (by omega)]; exact r1 b hb
  have htv : ∀ k y, fs[k]? = some y → y.own = k → vb k ∉ bx :: l.blk.toList := fun k y hk ho hh => by
    obtain ⟨q1, _⟩ := i.rvb k y hk ho
    simp at hh
    rcases hh with hh | hh
    · rw [hh, i.rbx.1] at q1; cases q1
    · rw [(i.rl _ hh).1] at q1; cases q1
  refine ⟨h', l', fun k => if k = fs.length then (fun j => ws.getD j 0) else vs k, fun k => if k = fs.length then bv else vb k, fun k => if k = fs.length then .nils else sv k, role ρ1 bv (1, fs.length), _, p1, ?_,
    ⟨p5, hT, hold⟩, fun k hk => by simp; intro hh; omega, fun j _ => by simp⟩
  refine { ref := p2, rrows := ?_, len := by simp; omega, own := ?_, stk := ?_, vars := ?_, svs := ?_, rbx := ⟨by rw [hold _ i.rbx.2]; exact i.rbx.1, Nat.lt_of_lt_of_le i.rbx.2 p5.1⟩, rl := ?_, rvb := ?_, rsv := ?_ }
  · rw [mapIdx_snoc]
    have e1 : fs.mapIdx (rRow (fun k => if k = fs.length then bv else vb k) (fun k => if k = fs.length then AV.nils else sv k)) = fs.mapIdx (rRow vb sv) := mapIdx_congr fun k y hk => by
      have := (List.getElem?_eq_some_iff.1 hk).1
      have hne : k ≠ fs.length := by omega
      simp [rRow, hne]
    rw [e1]
    simpa [rRow] using p3
  · intro k y hk
    rcases snoc_get hk with ⟨hk, hlt⟩ | ⟨rfl, rfl⟩
    · obtain ⟨q1, z, q2, q3⟩ := i.own k y hk
      exact ⟨q1, z, by rw [List.getElem?_append_left (by omega)]; exact q2, q3⟩
    · exact ⟨Nat.le_refl _, _, by simp, rfl⟩
  · intro k y hk
    rcases snoc_get hk with ⟨hk, hlt⟩ | ⟨rfl, rfl⟩
    · exact i.stk k y hk
    · simp
  · intro k y hk ho
    rcases snoc_get hk with ⟨hk, hlt⟩ | ⟨rfl, rfl⟩
    · have hne : k ≠ fs.length := by omega
      simp only [if_neg hne]
      exact (i.vars k y hk ho).same (p5.2 _ (i.rvb k y hk ho).2 (htv k y hk ho))
    · simp only [if_pos]
      obtain ⟨op, ct, w1, w2, w3⟩ := p4
      refine ⟨op, ct, w1, w2, fun j hj => ?_⟩
      rw [w3 j hj]
      have : lay (fun _ => 0) 0 ws ws.length j = ws.getD j 0 := by
        unfold lay
        by_cases hlt : j < ws.length
        · rw [if_pos (by omega)]; simp
        · rw [if_neg (by omega)]
          have : ws[j]? = none := List.getElem?_eq_none (by omega)
          simp [List.getD_eq_getElem?_getD, this]
      rw [this]
  · intro k y hk
    rcases snoc_get hk with ⟨hk, hlt⟩ | ⟨rfl, rfl⟩
    · have hne : k ≠ fs.length := by omega
      simp only [if_neg hne]
      refine (i.svs k y hk).touch p5 fun b hb => ⟨(i.sne hk hb).1, fun hh => ?_⟩
      have := i.sne hk hb
      simp at hh
      rcases hh with hh | hh
      · exact this.2.1 hh
      · exact this.2.2 hh
    · exact .inl ⟨by simp, rfl⟩
  · intro b hb
    obtain ⟨q1, q2⟩ := r2 b hb
    refine ⟨?_, q2⟩
    simp only [role]
    rw [if_neg (fun hh => p8 (by rw [← hh]; exact hb))]; exact q1
  · intro k y hk ho
    rcases snoc_get hk with ⟨hk, hlt⟩ | ⟨rfl, rfl⟩
    · have hne : k ≠ fs.length := by omega
      simp only [if_neg hne]
      obtain ⟨q1, q2⟩ := i.rvb k y hk ho
      exact ⟨by rw [hold _ q2]; exact q1, Nat.lt_of_lt_of_le q2 p5.1⟩
    · simp only [if_pos]
      exact ⟨by simp [role], p7⟩
  · intro k y hk b hb
    rcases snoc_get hk with ⟨hk, hlt⟩ | ⟨rfl, rfl⟩
    · have hne : k ≠ fs.length := by omega
      simp only [if_neg hne] at hb
      obtain ⟨q1, q2⟩ := i.rsv k y hk b hb
      exact ⟨by rw [hold _ q2]; exact q1, Nat.lt_of_lt_of_le q2 p5.1⟩
    · simp only [if_pos] at hb
      cases hb

theorem r_filter {k : Nat} {y : Fm} {x : Int} (i : RInv h bx l fs vs vb sv ρ) (h1 : fs.length < 64) (hk : fs[k]? = some y) :
    ∃ h' l' sv' ρ' T, callF tabT.get? L (d + 1) (.fn 31) [.ptr bx 0 0, .int .i64 k, .int .u64 x] h = .ok (.bool true) h' ∧ RInv h' bx l' (fs ++ [⟨y.m, y.a, y.own, [x]⟩]) vs vb sv' ρ' ∧ RGo h h' ρ ρ' T := by
  have hkl : k < fs.length := (List.getElem?_eq_some_iff.1 hk).1
  obtain ⟨h', l', st, p1, p2, p3, p4, p5, ⟨bst, p6, p7, p8, p9⟩, p10⟩ := rfilter_spec (d := d) (L := L) (x := x) i.ref i.rrows (by simpa using h1) (by simpa using hkl) (i.get hk) i.rbx.2 (fun b hb => i.nl hb)
  obtain ⟨ρ1, r1, r2, r3⟩ := newrowR (h' := h') i.rl (by rcases p10 with hh | hh; exact .inl hh; exact .inr (.inr hh)) p5.1
  have hT : ∀ b ∈ bx :: l.blk.toList, isR (ρ b) ∧ b < h.next := fun b hb => by
    simp at hb
    rcases hb with rfl | hb
    · exact ⟨by rw [i.rbx.1]; simp [isR], i.rbx.2⟩
    · exact ⟨by rw [(i.rl b hb).1]; simp [isR], (i.rl b hb).2⟩
  have hold : ∀ b, b < h.next → role ρ1 bst (2, fs.length) b = ρ b := fun b hb => by simp only [role]; rw [if_neg (by omega)]; exact r1 b hb
  have htv : ∀ k y, fs[k]? = some y → y.own = k → vb k ∉ bx :: l.blk.toList := fun k y hk ho hh => by
    obtain ⟨q1, _⟩ := i.rvb k y hk ho
    simp at hh
    rcases hh with hh | hh
    · rw [hh, i.rbx.1] at q1; cases q1
    · rw [(i.rl _ hh).1] at q1; cases q1
  have hyown : y.own ≠ fs.length := by have := (i.own k y hk).1; omega
  refine ⟨h', l', fun k => if k = fs.length then st else sv k, role ρ1 bst (2, fs.length), _, p1, ?_, ⟨p5, hT, hold⟩⟩
  refine { ref := p2, rrows := ?_, len := by simp; omega, own := ?_, stk := ?_, vars := ?_, svs := ?_, rbx := ⟨by rw [hold _ i.rbx.2]; exact i.rbx.1, Nat.lt_of_lt_of_le i.rbx.2 p5.1⟩, rl := ?_, rvb := ?_, rsv := ?_ }
  · rw [mapIdx_snoc]
    have e1 : fs.mapIdx (rRow vb (fun k => if k = fs.length then st else sv k)) = fs.mapIdx (rRow vb sv) := mapIdx_congr fun k y hk => by
      have := (List.getElem?_eq_some_iff.1 hk).1
      have hne : k ≠ fs.length := by omega
      simp [rRow, hne]
    rw [e1]
    simpa [rRow, hyown] using p3
  · intro j z hj
    rcases snoc_get hj with ⟨hj, hlt⟩ | ⟨rfl, rfl⟩
    · obtain ⟨q1, w, q2, q3⟩ := i.own j z hj
      exact ⟨q1, w, by rw [List.getElem?_append_left (by omega)]; exact q2, q3⟩
    · obtain ⟨q1, w, q2, q3⟩ := i.own k y hk
      exact ⟨by simp only; omega, w, by simp only; rw [List.getElem?_append_left (by omega)]; exact q2, q3⟩
  · intro j z hj
    rcases snoc_get hj with ⟨hj, hlt⟩ | ⟨rfl, rfl⟩
    · exact i.stk j z hj
    · simp
  · intro j z hj ho
    rcases snoc_get hj with ⟨hj, hlt⟩ | ⟨rfl, rfl⟩
    · exact (i.vars j z hj ho).same (p5.2 _ (i.rvb j z hj ho).2 (htv j z hj ho))
    · exact absurd ho hyown
  · intro j z hj
    rcases snoc_get hj with ⟨hj, hlt⟩ | ⟨rfl, rfl⟩
    · have hne : j ≠ fs.length := by omega
      simp only [if_neg hne]
      refine (i.svs j z hj).touch p5 fun b hb => ⟨(i.sne hj hb).1, fun hh => ?_⟩
      have := i.sne hj hb
      simp at hh
      rcases hh with hh | hh
      · exact this.2.1 hh
      · exact this.2.2 hh
    · simpa using p4
  · intro b hb
    obtain ⟨q1, q2⟩ := r2 b hb
    refine ⟨?_, q2⟩
    simp only [role]
    rw [if_neg (fun hh => p9 (by rw [← hh]; exact hb))]; exact q1
  · intro j z hj ho
    rcases snoc_get hj with ⟨hj, hlt⟩ | ⟨rfl, rfl⟩
    · obtain ⟨q1, q2⟩ := i.rvb j z hj ho
      exact ⟨by rw [hold _ q2]; exact q1, Nat.lt_of_lt_of_le q2 p5.1⟩
    · exact absurd ho hyown
  · intro j z hj b hb
    rcases snoc_get hj with ⟨hj, hlt⟩ | ⟨rfl, rfl⟩
    · have hne : j ≠ fs.length := by omega
      simp only [if_neg hne] at hb
      obtain ⟨q1, q2⟩ := i.rsv j z hj b hb
      exact ⟨by rw [hold _ q2]; exact q1, Nat.lt_of_lt_of_le q2 p5.1⟩
    · simp only [if_pos] at hb
      have := Option.some.inj (p6.symm.trans hb)
      subst this
      exact ⟨by simp [role], p8⟩

theorem rRow_ok (i : RInv h bx l fs vs vb sv ρ) : okElems 5 (fs.mapIdx (rRow vb sv)) = true := by
  refine okElems_iff.2 fun x hx => ?_
  obtain ⟨k, hk, rfl⟩ := List.getElem_of_mem hx
  simp at hk
  have hy : fs[k]? = some fs[k] := by simp [hk]
  have ho := (i.svs k _ hy).one
  simp only [List.getElem_mapIdx]
  refine ⟨rfl, ?_⟩
  simp only [rRow, List.all_cons, List.all_nil, ho]
  split <;> rfl

theorem take_get {α : Type} {l : List α} {n k : Nat} {y : α} (hk : (l.take n)[k]? = some y) : l[k]? = some y ∧ k < n := by
  rw [List.getElem?_take] at hk
  split at hk
  · exact ⟨hk, by assumption⟩
  · cases hk

theorem r_leave {n : Nat} (i : RInv h bx l fs vs vb sv ρ) (hn : fs.length = n + 1) :
    ∃ h' l' ρ' T, callF tabT.get? L (d + 1) (.fn 32) [.ptr bx 0 0] h = .ok (.bool true) h' ∧ RInv h' bx l' (fs.take n) vs vb sv ρ' ∧ RGo h h' ρ ρ' T := by
  have hlen := i.len
  obtain ⟨h', l', p1, p2, p3, p4, p5⟩ := rleave_spec (d := d) (L := L) i.ref i.rrows (by simpa using hn) (by omega) (rRow_ok i) i.rbx.2
  obtain ⟨ρ1, r1, r2, r3⟩ := newrowR (h' := h') i.rl (by rcases p5 with hh | hh; exact .inr (.inl hh); exact .inr (.inr hh)) p4.1
  have hvx : ∀ k y, fs[k]? = some y → y.own = k → vb k ∉ [bx] := fun k y hk ho hh => by
    obtain ⟨q1, _⟩ := i.rvb k y hk ho
    simp at hh
    rw [hh, i.rbx.1] at q1; cases q1
  refine ⟨h', l', ρ1, [bx], p1, ?_, ⟨p4, fun b hb => by simp at hb; subst hb; exact ⟨by rw [i.rbx.1]; simp [isR], i.rbx.2⟩, r1⟩⟩
  refine {
    ref := p2, rrows := by rw [mapIdx_take]; exact p3, len := by simp; omega, own := ?_, stk := fun k y hk => i.stk k y (take_get hk).1, vars := ?_, svs := ?_, rbx := ⟨by rw [r1 _ i.rbx.2]; exact i.rbx.1, Nat.lt_of_lt_of_le i.rbx.2 p4.1⟩,
    rl := r2, rvb := ?_, rsv := ?_ }
  · intro k y hk
    obtain ⟨hk, hlt⟩ := take_get hk
    obtain ⟨q1, z, q2, q3⟩ := i.own k y hk
    exact ⟨q1, z, by rw [List.getElem?_take, if_pos (by omega)]; exact q2, q3⟩
  · intro k y hk ho
    obtain ⟨hk, hlt⟩ := take_get hk
    exact (i.vars k y hk ho).same (p4.2 _ (i.rvb k y hk ho).2 (hvx k y hk ho))
  · intro k y hk
    obtain ⟨hk, hlt⟩ := take_get hk
    exact (i.svs k y hk).touch p4 fun b hb => ⟨(i.sne hk hb).1, by simp; exact (i.sne hk hb).2.1⟩
  · intro k y hk ho
    obtain ⟨hk, hlt⟩ := take_get hk
    obtain ⟨q1, q2⟩ := i.rvb k y hk ho
    exact ⟨by rw [r1 _ q2]; exact q1, Nat.lt_of_lt_of_le q2 p4.1⟩
  · intro k y hk b hb
    obtain ⟨hk, hlt⟩ := take_get hk
    obtain ⟨q1, q2⟩ := i.rsv k y hk b hb
    exact ⟨by rw [r1 _ q2]; exact q1, Nat.lt_of_lt_of_le q2 p4.1⟩

theorem set_get {α : Type} {l : List α} {k j : Nat} {z y : α} (hj : (l.set k z)[j]? = some y) : (j = k ∧ y = z) ∨ (j ≠ k ∧ l[j]? = some y) := by
  rw [List.getElem?_set] at hj
  split at hj
  · rename_i hh
    split at hj
    · exact .inl ⟨hh.symm, (Option.some.inj hj).symm⟩
    · cases hj
  · rename_i hh
    exact .inr ⟨fun h2 => hh h2.symm, hj⟩

/-- one frame's stack is another one, the rest of the row is as it was -/
theorem r_set {k : Nat} {y z : Fm} {st : AV} {h' : Heap} {T : List Nat} (i : RInv h bx l fs vs vb sv ρ) (hk : fs[k]? = some y) (hzo : z.own = y.own) (hz : z.stk.length ≤ 96) (href : RefAt h' bx l)
    (hrow : OpenS 5 h' l ((fs.mapIdx (rRow vb sv)).set k [.int .i64 z.m, .int .i64 z.a, .int .i64 y.own, if y.own = k then .slice 1 (vb k) 0 152 (some 152) else .nils, st])) (hst : OpenS 1 h' st (encW z.stk)) (ht : Touch h h' T)
    (hT : ∀ b ∈ T, (l.blk = some b ∨ (sv k).blk = some b)) (hsb : st.blk = (sv k).blk ∨ st.blk = none ∨ ∃ b, st.blk = some b ∧ h.next ≤ b ∧ b < h'.next) :
    ∃ sv' ρ', RInv h' bx l (fs.set k z) vs vb sv' ρ' ∧ RGo h h' ρ ρ' T ∧ sv' k = st := by
  obtain ⟨ρ1, r1, r2⟩ : ∃ ρ1 : Nat → Nat × Nat, (∀ b, b < h.next → ρ1 b = ρ b) ∧ ∀ b, st.blk = some b → ρ1 b = (2, k) ∧ b < h'.next := by
    rcases hsb with hb | hb | ⟨b, hb, h1, h2⟩
    · exact ⟨ρ, fun _ _ => rfl, fun b hh => by rw [hb] at hh; obtain ⟨q1, q2⟩ := i.rsv k y hk b hh; exact ⟨q1, Nat.lt_of_lt_of_le q2 ht.1⟩⟩
    · exact ⟨ρ, fun _ _ => rfl, fun b hh => by rw [hb] at hh; cases hh⟩
    · refine ⟨role ρ b (2, k), fun x hx => by simp only [role]; rw [if_neg (by omega)], fun x hh => ?_⟩
      have := Option.some.inj (hb.symm.trans hh)
      subst this
      exact ⟨by simp [role], h2⟩
  have hTR : ∀ b ∈ T, (isR (ρ b) ∧ b < h.next) ∧ (ρ b = (0, 5) ∨ ρ b = (2, k)) := fun b hb => by
    rcases hT b hb with hh | hh
    · exact ⟨⟨by rw [(i.rl b hh).1]; simp [isR], (i.rl b hh).2⟩, .inl (i.rl b hh).1⟩
    · exact ⟨⟨by rw [(i.rsv k y hk b hh).1]; simp [isR], (i.rsv k y hk b hh).2⟩, .inr (i.rsv k y hk b hh).1⟩
  refine ⟨fun j => if j = k then st else sv j, ρ1, ?_, ⟨ht, fun b hb => (hTR b hb).1, r1⟩, by simp⟩
  refine {
    ref := href, rrows := ?_, len := by simpa using i.len, own := ?_, stk := ?_, vars := ?_, svs := ?_, rbx := ⟨by rw [r1 _ i.rbx.2]; exact i.rbx.1, Nat.lt_of_lt_of_le i.rbx.2 ht.1⟩,
    rl := fun b hb => ⟨by rw [r1 _ (i.rl b hb).2]; exact (i.rl b hb).1, Nat.lt_of_lt_of_le (i.rl b hb).2 ht.1⟩, rvb := ?_, rsv := ?_ }
  · rw [mapIdx_set]
    have e1 : rRow vb (fun j => if j = k then st else sv j) k z = [.int .i64 z.m, .int .i64 z.a, .int .i64 y.own, if y.own = k then .slice 1 (vb k) 0 152 (some 152) else .nils, st] := by simp [rRow, hzo]
    rw [e1]
    have e2 : (fs.mapIdx (rRow vb (fun j => if j = k then st else sv j))).set k [.int .i64 z.m, .int .i64 z.a, .int .i64 y.own, if y.own = k then .slice 1 (vb k) 0 152 (some 152) else .nils, st] =
        (fs.mapIdx (rRow vb sv)).set k [.int .i64 z.m, .int .i64 z.a, .int .i64 y.own, if y.own = k then .slice 1 (vb k) 0 152 (some 152) else .nils, st] := by
      apply List.ext_getElem?
      intro j
      rw [List.getElem?_set, List.getElem?_set]
      simp only [List.length_mapIdx]
      split
      · rfl
      · rename_i hne
        rw [List.getElem?_mapIdx, List.getElem?_mapIdx]
        cases fs[j]? with
        | none => rfl
        | some w => simp [rRow, Ne.symm hne]
    rw [e2]; exact hrow
  · intro j w hj
    rcases set_get hj with ⟨rfl, rfl⟩ | ⟨hne, hj⟩
    · obtain ⟨q1, u, q2, q3⟩ := i.own j y hk
      rw [hzo]
      refine ⟨q1, ?_⟩
      by_cases hh : y.own = j
      · exact ⟨w, by rw [hh, List.getElem?_set]; simp [(List.getElem?_eq_some_iff.1 hk).1], by rw [hzo]⟩
      · exact ⟨u, by rw [List.getElem?_set, if_neg (Ne.symm hh)]; exact q2, q3⟩
    · obtain ⟨q1, u, q2, q3⟩ := i.own j w hj
      refine ⟨q1, ?_⟩
      by_cases hh : w.own = k
      · rw [hh] at q2
        have : u = y := Option.some.inj (q2.symm.trans hk)
        subst this
        exact ⟨z, by rw [hh, List.getElem?_set]; simp [(List.getElem?_eq_some_iff.1 hk).1], by rw [hzo]; exact q3⟩
      · exact ⟨u, by rw [List.getElem?_set, if_neg (Ne.symm hh)]; exact q2, q3⟩
  · intro j w hj
    rcases set_get hj with ⟨rfl, rfl⟩ | ⟨hne, hj⟩
    · exact hz
    · exact i.stk j w hj
  · intro j w hj ho
    have hv : ∃ w', fs[j]? = some w' ∧ w'.own = j := by
      rcases set_get hj with ⟨rfl, rfl⟩ | ⟨hne, hj⟩
      · exact ⟨y, hk, by rw [← hzo]; exact ho⟩
      · exact ⟨w, hj, ho⟩
    obtain ⟨w', q1, q2⟩ := hv
    refine (i.vars j w' q1 q2).same (ht.2 _ (i.rvb j w' q1 q2).2 fun hh => ?_)
    have := (hTR _ hh).2
    rw [(i.rvb j w' q1 q2).1] at this
    rcases this with hh | hh <;> cases hh
  · intro j w hj
    rcases set_get hj with ⟨rfl, rfl⟩ | ⟨hne, hj⟩
    · simpa using hst
    · simp only [if_neg hne]
      refine (i.svs j w hj).touch ht fun b hb => ⟨(i.rsv j w hj b hb).2, fun hh => ?_⟩
      have := (hTR _ hh).2
      rw [(i.rsv j w hj b hb).1] at this
      rcases this with hh | hh
      · cases hh
      · exact hne (by simpa using hh)
  · intro j w hj ho
    have hv : ∃ w', fs[j]? = some w' ∧ w'.own = j := by
      rcases set_get hj with ⟨rfl, rfl⟩ | ⟨hne, hj⟩
      · exact ⟨y, hk, by rw [← hzo]; exact ho⟩
      · exact ⟨w, hj, ho⟩
    obtain ⟨w', q1, q2⟩ := hv
    obtain ⟨t1, t2⟩ := i.rvb j w' q1 q2
    exact ⟨by rw [r1 _ t2]; exact t1, Nat.lt_of_lt_of_le t2 ht.1⟩
  · intro j w hj b hb
    rcases set_get hj with ⟨rfl, rfl⟩ | ⟨hne, hj⟩
    · simp only [if_pos] at hb
      exact r2 b hb
    · simp only [if_neg hne] at hb
      obtain ⟨t1, t2⟩ := i.rsv j w hj b hb
      exact ⟨by rw [r1 _ t2]; exact t1, Nat.lt_of_lt_of_le t2 ht.1⟩

theorem r_push {n : Nat} {y : Fm} {v : AV} {ws : List Int} (i : RInv h bx l fs vs vb sv ρ) (hn : fs.length = n + 1) (hy : fs[n]? = some y) (hv : ReadsW h v ws) (hle : y.stk.length + ws.length ≤ 96) :
    ∃ h' sv' ρ' T, callF tabT.get? L (d + 1) (.fn 11) [.ptr bx 0 0, v] h = .ok (.bool true) h' ∧ RInv h' bx l (fs.set n { y with stk := y.stk ++ ws }) vs vb sv' ρ' ∧ RGo h h' ρ ρ' T := by
  have hlen := i.len
  obtain ⟨h', st', p1, p2, p3, p4, p5, p6⟩ := rpush_spec (d := d) (L := L) i.ref i.rrows (by simpa using hn) (by omega) (i.get hy) (i.svs n y hy) hv (i.stk n y hy) hle i.rbx.2 (fun b hb => i.nl hb) (fun b hb => i.sne hy hb)
  obtain ⟨sv', ρ', q1, q2, _⟩ := r_set (z := { y with stk := y.stk ++ ws }) (st := st') i hy rfl (by simpa using hle) p2 p3 p4 p5 (fun b hb => by simp at hb; rcases hb with hh | hh; exact .inr hh; exact .inl hh)
    (by rcases p6 with hh | hh; exact .inl hh; exact .inr (.inr hh))
  exact ⟨h', sv', ρ', _, p1, q1, q2⟩
theorem r_pop {n k : Nat} {y : Fm} (i : RInv h bx l fs vs vb sv ρ) (hn : fs.length = n + 1) (hy : fs[n]? = some y) (hk : k ≤ y.stk.length) :
    ∃ h' sv' ρ' out, callF tabT.get? L (d + 1) (.fn 14) [.ptr bx 0 0, .int .i64 k] h = .ok out h' ∧ RInv h' bx l (fs.set n { y with stk := y.stk.take (y.stk.length - k) }) vs vb sv' ρ' ∧ RGo h h' ρ ρ' l.blk.toList ∧
      ReadsW h' out (y.stk.drop (y.stk.length - k)) := by
  have hlen := i.len
  have hs := i.stk n y hy
  obtain ⟨h', st', out, p1, p2, p3, p4, p5, p6, p7⟩ := rpop_spec (d := d) (L := L) i.ref i.rrows (by simpa using hn) (by omega) (i.get hy) (i.svs n y hy) hk (by omega) i.rbx.2 (fun b hb => i.nl hb) (fun b hb => (i.sne hy hb).1)
  obtain ⟨sv', ρ', q1, q2, _⟩ := r_set (z := { y with stk := y.stk.take (y.stk.length - k) }) (st := st') i hy rfl (by simp; omega) p2 p3 p4 p6 (fun b hb => by simp at hb; exact .inl hb) (.inr p7)
  exact ⟨h', sv', ρ', out, p1, q1, q2, p5.reads⟩
theorem r_clear {k : Nat} {y : Fm} (i : RInv h bx l fs vs vb sv ρ) (hy : fs[k]? = some y) :
    ∃ h' sv' ρ' T, callF tabT.get? L (d + 1) (.fn 34) [.ptr bx 0 0, .int .i64 k] h = .ok (.tup []) h' ∧ RInv h' bx l (fs.set k { y with stk := [] }) vs vb sv' ρ' ∧ RGo h h' ρ ρ' T := by
  have hkl : k < fs.length := (List.getElem?_eq_some_iff.1 hy).1
  obtain ⟨h', p1, p2, p3, p4, p5⟩ := rclear_spec (d := d) (L := L) i.ref i.rrows (by simpa using hkl) (i.get hy) i.rbx.2 (fun hh => (i.nl hh).2 rfl)
  obtain ⟨sv', ρ', q1, q2, _⟩ := r_set (z := { y with stk := [] }) (st := .nils) i hy rfl (by simp) p2 p3 (.inl ⟨rfl, rfl⟩) p4 (fun b hb => by simp at hb; exact .inl hb) (.inr (.inl rfl))
  exact ⟨h', sv', ρ', _, p1, q1, q2⟩
theorem r_move {k : Nat} {y : Fm} {x : Int} (i : RInv h bx l fs vs vb sv ρ) (hy : fs[k]? = some y) :
    ∃ h' sv' ρ' T, callF tabT.get? L (d + 1) (.fn 36) [.ptr bx 0 0, .int .i64 k, .int .i64 x] h = .ok (.tup []) h' ∧ RInv h' bx l (fs.set k { y with a := x }) vs vb sv' ρ' ∧ RGo h h' ρ ρ' T := by
  have hkl : k < fs.length := (List.getElem?_eq_some_iff.1 hy).1
  obtain ⟨h', p1, p2, p3, p4, p5⟩ := rmove_spec (d := d) (L := L) (x := x) i.ref i.rrows (by simpa using hkl) (i.get hy) i.rbx.2 (fun hh => (i.nl hh).2 rfl)
  have hst : OpenS 1 h' (sv k) (encW y.stk) := (i.svs k y hy).touch p4 fun b hb => ⟨(i.sne hy hb).1, by simp; exact (i.sne hy hb).2.2⟩
  obtain ⟨sv', ρ', q1, q2, _⟩ := r_set (z := { y with a := x }) (st := sv k) i hy rfl (i.stk k y hy) p2 p3 hst p4 (fun b hb => by simp at hb; exact .inl hb) (.inl rfl)
  exact ⟨h', sv', ρ', _, p1, q1, q2⟩
end
end Go.D.FB
