/-
  The law FramesBack at the abstract evaluator: its functions, stepped through once each.
-/
import Derived.Test.YtgdenjkiblpnpaaGreatFT
set_option linter.unusedSimpArgs false
set_option linter.unusedVariables false
namespace Go.D.FB
open Go.D
set_option maxRecDepth 100000
section
variable {d L : Nat} {h : Heap} {bm bw bs bl : Nat}

/-- the program's memory -/
def MemAt (h : Heap) (bm bw : Nat) : Prop := ∃ r1 r2 r3 r4 r5 rest, h.get bm = some (.cells 8 false (.list [.slice 1 bw 0 16396 (some 16396) :: r1 :: r2 :: r3 :: r4 :: r5 :: .int .u64 12 :: rest]))
/-- the program's stack -/
def StackAt (h : Heap) (bs bm : Nat) (ls : AV) : Prop := h.get bs = some (.cells 3 false (.list [[.ptr bm 0 0, .int .i64 64, ls]]))

theorem MemAt.touch {g : Heap} {l : List Nat} (hm : MemAt h bm bw) (ht : Touch h g l) (hb : bm < h.next) (hn : bm ∉ l) : MemAt g bm bw := by
  obtain ⟨r1, r2, r3, r4, r5, rest, hm⟩ := hm
  exact ⟨r1, r2, r3, r4, r5, rest, by rw [ht.2 _ hb hn]; exact hm⟩
theorem StackAt.touch {g : Heap} {l : List Nat} {ls : AV} (hm : StackAt h bs bm ls) (ht : Touch h g l) (hb : bs < h.next) (hn : bs ∉ l) : StackAt g bs bm ls := by
  unfold StackAt
  rw [ht.2 _ hb hn]; exact hm
theorem frames_spec (hm : MemAt h bm bw) : callF tabT.get? L (d + 1) (.fn 43) [.ptr bm 0 0] h = .ok (.int .u64 12) h := by
  obtain ⟨r1, r2, r3, r4, r5, rest, hm⟩ := hm
  refine callF_run (fn := d43) rfl rfl ?_
  simp [d43, Env.get_put, eqAV, loadD_row hm]

theorem depth_spec {ls : AV} {n : Nat} (hs : StackAt h bs bm ls) (hl : lenD h .sl ls = some n) : callF tabT.get? L (d + 1) (.fn 26) [.ptr bs 0 0] h = .ok (.int .i64 n) h := by
  refine callF_run (fn := d26) rfl rfl ?_
  simp [d26, Env.get_put, eqAV, loadD_row hs, hl]

theorem there_spec {ls : AV} {n : Nat} {k : Int} (hs : StackAt h bs bm ls) (hl : lenD h .sl ls = some n) :
    callF tabT.get? L (d + 1) (.fn 53) [.ptr bs 0 0, .int .i64 k] h = .ok (.bool (decide (0 ≤ k) && decide (k < n))) h := by
  refine callF_run (fn := d53) rfl rfl ?_
  by_cases h1 : 0 ≤ k
  · simp [d53, Env.get_put, eqAV, loadD_row hs, hl, h1]
  · simp [d53, Env.get_put, eqAV, loadD_row hs, hl, h1]

theorem full_spec {ls : AV} {n : Nat} (hs : StackAt h bs bm ls) (hl : lenD h .sl ls = some n) :
    callF tabT.get? L (d + 1) (.fn 41) [.ptr bs 0 0] h = .ok (.bool (decide (64 ≤ n))) h := by
  refine callF_run (fn := d41) rfl rfl ?_
  simp [d41, Env.get_put, eqAV, loadD_row hs, hl]
  omega

theorem top_spec0 {ls : AV} (hs : StackAt h bs bm ls) (hl : lenD h .sl ls = some 0) : callF tabT.get? L (d + 2) (.fn 39) [.ptr bs 0 0] h = .ok .nilp h := by
  refine callF_run (fn := d39) rfl rfl ?_
  simp [d39, Env.get_put, eqAV, loadD_row hs, hl, depth_spec hs hl]

theorem top_spec {n : Nat} (hs : StackAt h bs bm (.slice 5 bl 0 (n + 1) none)) (hn : n < 1000) : callF tabT.get? L (d + 2) (.fn 39) [.ptr bs 0 0] h = .ok (.ptr bl n 0) h := by
  have hl : lenD h .sl (.slice 5 bl 0 (n + 1) none) = some (n + 1) := rfl
  have e1 : ((n : Int) + 1 = 0) = False := by simp; omega
  refine callF_run (fn := d39) rfl rfl ?_
  simp (disch := first | omega | simp) [d39, Env.get_put, eqAV, loadD_row hs, hl, depth_spec hs hl, e1, wrap_i64, nblt]

theorem put_spec {f : Nat → Int} {at_ : Nat} {x : Int} (hm : MemAt h bm bw) (hw : WordsAt h bw 16396 f) (h0 : 0 < at_) (h1 : at_ < 16396) :
    ∃ h', callF tabT.get? L (d + 1) (.fn 38) [.ptr bm 0 0, .int .u64 at_, .int .u64 x] h = .ok (.tup []) h' ∧ WordsAt h' bw 16396 (upd f at_ x) ∧ Touch h h' [bw] ∧ h'.next = h.next := by
  obtain ⟨r1, r2, r3, r4, r5, rest, hm⟩ := hm
  obtain ⟨op, ct, q1, q2, q3⟩ := hw
  have e1 : ((at_ : Int) < 16396) = True := by simp; omega
  have e2 : ((0 : Int) < at_) = True := by simp; omega
  refine ⟨_, callF_run (fn := d38) rfl rfl ?_, WordsAt.set (op := op) q2 q3 h1, Touch.set (by simp), rfl⟩
  have hst := storeD_at (n := 1) (off := 0) (x := .int .u64 x) (y' := [.int .u64 x]) q1 (q3 _ h1) rfl
  simp (disch := first | omega | simp) [d38, Env.get_put, eqAV, loadD_row hm, lenD, e1, e2, wrap_u64, nblt, hst, h1, h0]

theorem get_spec {f : Nat → Int} {at_ : Nat} (hm : MemAt h bm bw) (hw : WordsAt h bw 16396 f) (h1 : at_ < 16396) :
    callF tabT.get? L (d + 1) (.fn 44) [.ptr bm 0 0, .int .u64 at_] h = .ok (.int .u64 (f at_)) h := by
  obtain ⟨r1, r2, r3, r4, r5, rest, hm⟩ := hm
  obtain ⟨op, ct, q1, q2, q3⟩ := hw
  have e1 : ((16396 : Int) ≤ at_) = False := by simp; omega
  refine callF_run (fn := d44) rfl rfl ?_
  simp (disch := first | omega | simp) [d44, Env.get_put, eqAV, loadD_row hm, lenD, e1, wrap_u64, nblt, loadD_at q1 (q3 _ h1), h1]

theorem start_spec {ls : AV} {n : Nat} (hm : MemAt h bm bw) (hs : StackAt h bs bm ls) (hl : lenD h .sl ls = some n) (hn : n < 1000) (hb : AV.beq ls ls = true) :
    callF tabT.get? L (d + 2) (.fn 42) [.ptr bs 0 0] h = .ok (.int .u64 ((12 + 256 * n : Nat) : Int)) h := by
  refine callF_run (fn := d42) rfl rfl ?_
  simp (disch := first | omega | simp) [d42, Env.get_put, eqAV, loadD_row hs, hl, frames_spec hm, wrap_u64, hb]
  omega

theorem words_spec {f : Nat → Int} {ls : AV} {at_ n : Nat} (hm : MemAt h bm bw) (hs : StackAt h bs bm ls) (hw : WordsAt h bw 16396 f) (hn : n < 200) (ha : at_ + n ≤ 16396) (hL : 1000 < L)
    (hbm : bm < h.next) (hbw : bw < h.next) (hbs : bs < h.next) :
    ∃ h', callF tabT.get? L (d + 2) (.fn 40) [.ptr bs 0 0, .int .u64 at_, .int .i64 n] h = .ok (.slice 1 h.next 0 n (some n)) h' ∧ WordsAt h' h.next n (fun i => f (at_ + i)) ∧ Touch h h' [] ∧ h.next < h'.next := by
  have hr : roomy n 8 = true := by rw [roomy, nble, decide_eq_true_eq]; omega
  let z : List AV := [.int .u64 0]
  let h1 := h.new (.cells 1 false (.list (List.replicate n z)))
  suffices hh : ∃ h', finishF d40.results (evd (callF tabT.get? L (d + 1)) L false d40.body (startEnv [.ptr bs 0 0, .int .u64 at_, .int .i64 n]) h) = .ok (.slice 1 h.next 0 n (some n)) h' ∧
      WordsAt h' h.next n (fun i => f (at_ + i)) ∧ Touch h h' [] ∧ h.next < h'.next by
    obtain ⟨h', q1, q2⟩ := hh
    exact ⟨h', callF_run (fn := d40) rfl rfl q1, q2⟩
  have e1 : (1024 ≤ n) = False := by simp; omega
  simp [d40, newOf, nble, nblt, hr, e1, Env.get_put, lenD]
  generalize hrr : rounds _ _ _ _ = o
  obtain ⟨e', h', rfl, j1, j2, j3, j4, j5⟩ : ∃ e' h', o = .go (.exit 0) e' h' ∧ noDs e' = true ∧ e'.get 7 = .slice 1 h.next 0 n (some n) ∧ WordsAt h' h.next n (fun i => f (at_ + i)) ∧ Touch h h' [] ∧ h.next < h'.next := by
    refine loop_exit (id := 0) hrr n (fun k e g => noDs e = true ∧ e.get 0 = .ptr bs 0 0 ∧ e.get 1 = .int .u64 at_ ∧ e.get 7 = .slice 1 h.next 0 n (some n) ∧ e.get 12 = .int .i64 n ∧
      e.get 13 = .int .i64 k ∧ Touch h g [] ∧ g.next = h.next + 1 ∧ ∃ l, g.get h.next = some (.cells 1 false (.list l)) ∧ l.length = n ∧ (∀ i, i < k → l[i]? = some [.int .u64 (f (at_ + i))]) ∧ (∀ i, i < n → ∃ x, l[i]? = some [x])) (by omega) ?_ ?_ ?_
    · simp [Env.get_put, Heap.get_new, List.getElem?_replicate]
      exact Touch.new
    · rintro k hk e g ⟨i1, i2, i3, i4, i5, i6, i7, i8, l, i9, i10, i11, i12⟩
      have hm' := hm.touch i7 hbm (by simp)
      have hs' := hs.touch i7 hbs (by simp)
      have hw' : WordsAt g bw 16396 f := hw.same (i7.2 _ hbw (by simp))
      have hg := get_spec (d := d) (L := L) (at_ := at_ + k) hm' hw' (by omega)
      simp only [Int.natCast_add] at hg
      have e2 : ((k : Int) < n) = True := by simp; omega
      obtain ⟨x, hx⟩ := i12 k hk
      have hst := storeD_at (n := 1) (off := 0) (x := .int .u64 (f (at_ + k))) (y' := [.int .u64 (f (at_ + k))]) i9 hx rfl
      have e3 : IntKind.u64.wrap ((at_ : Int) + (k : Int)) = ((at_ + k : Nat) : Int) := by rw [wrap_u64 (by omega) (by omega)]; simp
      have e4 : IntKind.u64.wrap (k : Int) = k := wrap_u64 (by omega) (by omega)
      have e5 : IntKind.i64.wrap ((k : Int) + 1) = ((k + 1 : Nat) : Int) := by rw [wrap_i64 (by omega) (by omega)]; simp
      apply ex2
      · simp [Env.get_put, i2, i3, i4, i5, i6, e2, e3, e4, e5, loadD_row hs', hg, nblt, hk, hst]
        exact ⟨rfl, rfl⟩
      · simp [Env.get_put, i1, i2, i3, i4, i5, i8, Heap.get_set]
        refine ⟨i7.fresh (Nat.le_refl _), _, rfl, by simp [i10], fun i hi => ?_, fun i hi => ?_⟩
        · rw [List.getElem?_set]
          by_cases hik : k = i
          · subst hik; simp [i10, hk]
          · rw [if_neg hik]; exact i11 i (by omega)
        · rw [List.getElem?_set]
          by_cases hik : k = i
          · subst hik; simp [i10, hk]
          · rw [if_neg hik]; exact i12 i hi
    · rintro e g ⟨i1, i2, i3, i4, i5, i6, i7, i8, l, i9, i10, i11, i12⟩
      apply ex2
      · simp [Env.get_put, i5, i6]
        exact ⟨rfl, rfl⟩
      · simp [Env.get_put, i1, i4, i7, i8]
        exact ⟨_, _, i9, i10, i11⟩
  · simp [j1, j2, Env.get_put]
    exact ⟨j3, j4, j5⟩
end
end Go.D.FB
namespace Go.D.FB
open Go.D
set_option maxRecDepth 100000
section
variable {d L : Nat} {h : Heap} {bm bw bs bl : Nat}

/-- the program's row of frames -/
def RowsAt (h : Heap) (bl : Nat) (l : List (List AV)) : Prop := h.get bl = some (.cells 5 true (.list l))
theorem RowsAt.touch {g : Heap} {bs : List Nat} {l : List (List AV)} (hm : RowsAt h bl l) (ht : Touch h g bs) (hb : bl < h.next) (hn : bl ∉ bs) : RowsAt g bl l := by
  unfold RowsAt
  rw [ht.2 _ hb hn]; exact hm

theorem RowsAt.touch2 {g h2 : Heap} {l : List (List AV)} (hm : RowsAt g bl l) (ht : Touch g h2 []) (hb : bl < g.next) : RowsAt h2 bl l := hm.touch ht hb (by simp)
theorem RowsAt.eq {l : List (List AV)} (hm : RowsAt h bl l) : h.get bl = some (.cells 5 true (.list l)) := hm

theorem push_spec {f : Nat → Int} {n ev sz : Nat} {es : List (List AV)} {m a b v : AV} {ws : List Int} (hm : MemAt h bm bw) (hs : StackAt h bs bm (.slice 5 bl 0 (n + 1) none)) (hw : WordsAt h bw 16396 f)
    (hr : RowsAt h bl es) (hn : n < 1000) (he : es[n]? = some [m, a, b, .int .u64 ev, .int .i64 sz]) (hev : 0 < ev) (hev2 : ev + 96 ≤ 16396) (hsz : sz ≤ 96) (hv : ReadsW h v ws) (hvl : ws.length < 1000) (hL : 1000 < L)
    (hbm : bm < h.next) (hbw : bw < h.next) (hbs : bs < h.next) (hbl : bl < h.next) (n1 : bm ≠ bw) (n2 : bm ≠ bl) (n3 : bs ≠ bw) (n4 : bs ≠ bl) (n5 : bw ≠ bl) (hvb : ∀ b, v.blk = some b → b < h.next ∧ b ∉ [bw, bl]) :
    (96 < sz + ws.length → callF tabT.get? L (d + 3) (.fn 10) [.ptr bs 0 0, v] h = .ok (.bool false) h) ∧
    (sz + ws.length ≤ 96 → ∃ h', callF tabT.get? L (d + 3) (.fn 10) [.ptr bs 0 0, v] h = .ok (.bool true) h' ∧ WordsAt h' bw 16396 (lay f (ev + sz) ws ws.length) ∧
      RowsAt h' bl (es.set n [m, a, b, .int .u64 ev, .int .i64 ((sz + ws.length : Nat) : Int)]) ∧ Touch h h' [bw, bl] ∧ h'.next = h.next) := by
  have ht := top_spec (d := d) (L := L) hs hn
  have hld := loadD_at (k := none) (off := 4) hr (y := [m, a, b, .int .u64 ev, .int .i64 sz]) he
  simp at hld
  have e0 : IntKind.i64.wrap ((96 : Int) - sz) = 96 - sz := wrap_i64 (by omega) (by omega)
  refine ⟨fun hlt => ?_, fun hle => ?_⟩
  · refine callF_run (fn := d10) rfl rfl ?_
    have e1 : ((96 : Int) - sz < ws.length) = True := by simp; omega
    simp [d10, Env.get_put, ht, eqAV, hv.len, hld, e0, e1]
  · have e1 : ((96 : Int) - sz < ws.length) = False := by simp; omega
    suffices hh : ∃ h', finishF d10.results (evd (callF tabT.get? L (d + 2)) L false d10.body (startEnv [.ptr bs 0 0, v]) h) = .ok (.bool true) h' ∧ WordsAt h' bw 16396 (lay f (ev + sz) ws ws.length) ∧
        RowsAt h' bl (es.set n [m, a, b, .int .u64 ev, .int .i64 ((sz + ws.length : Nat) : Int)]) ∧ Touch h h' [bw, bl] ∧ h'.next = h.next by
      obtain ⟨h', q1, q2⟩ := hh
      exact ⟨h', callF_run (fn := d10) rfl rfl q1, q2⟩
    simp [d10, Env.get_put, ht, eqAV, hv.len, hld, e0, e1]
    generalize hrr : rounds _ _ _ _ = o
    obtain ⟨e', h', rfl, j1, j2, j3, j4, j5⟩ : ∃ e' h', o = .go (.exit 0) e' h' ∧ noDs e' = true ∧ WordsAt h' bw 16396 (lay f (ev + sz) ws ws.length) ∧
        RowsAt h' bl (es.set n [m, a, b, .int .u64 ev, .int .i64 ((sz + ws.length : Nat) : Int)]) ∧ Touch h h' [bw, bl] ∧ h'.next = h.next := by
      refine loop_exit (id := 0) hrr ws.length (fun k e g => noDs e = true ∧ e.get 0 = .ptr bs 0 0 ∧ e.get 5 = .ptr bl n 0 ∧ e.get 22 = v ∧ e.get 23 = .int .i64 ws.length ∧
        e.get 24 = .int .i64 k ∧ Touch h g [bw, bl] ∧ g.next = h.next ∧ WordsAt g bw 16396 (lay f (ev + sz) ws k) ∧ RowsAt g bl (es.set n [m, a, b, .int .u64 ev, .int .i64 ((sz + k : Nat) : Int)])) (by omega) ?_ ?_ ?_
      · simp [Env.get_put, lay_zero, hw]
        refine ⟨.refl _ _, ?_⟩
        rw [show es.set n [m, a, b, AV.int IntKind.u64 ev, AV.int IntKind.i64 sz] = es from ?_]
        · exact hr
        · apply List.ext_getElem?
          intro i
          rw [List.getElem?_set]
          split
          · rename_i hi; subst hi
            obtain ⟨hlt, _⟩ := List.getElem?_eq_some_iff.1 he
            rw [he, if_pos hlt]
          · rfl
      · rintro k hk e g ⟨i1, i2, i3, i4, i5, i6, i7, i8, i9, i10⟩
        obtain ⟨p, w, q1, q2, q3⟩ := (hv.touch i7 hvb).at_ k hk
        have hs' := hs.touch i7 hbs (by simp [n3, n4])
        have hm' := hm.touch i7 hbm (by simp [n1, n2])
        have hlen : n < es.length := (List.getElem?_eq_some_iff.1 he).1
        have hy : (es.set n [m, a, b, AV.int IntKind.u64 ev, AV.int IntKind.i64 ((sz + k : Nat) : Int)])[n]? = some [m, a, b, AV.int IntKind.u64 ev, AV.int IntKind.i64 ((sz + k : Nat) : Int)] := by
          rw [List.getElem?_set]; simp [hlen]
        have l3 := loadD_at (k := none) (off := 3) i10 hy
        have l4 := loadD_at (k := none) (off := 4) i10 hy
        simp at l3 l4
        obtain ⟨g2, p1, p2, p3, p4⟩ := put_spec (d := d + 1) (L := L) (at_ := ev + sz + k) (x := w) hm' i9 (by omega) (by omega)
        simp only [Int.natCast_add] at p1
        have hr2 : RowsAt g2 bl _ := RowsAt.touch i10 p3 (by rw [i8]; exact hbl) (by simp [Ne.symm n5])
        have l5 := loadD_at (k := none) (off := 4) hr2 hy
        simp at l5
        have e2 : ((k : Int) < ws.length) = True := by simp; omega
        have e3 : IntKind.u64.wrap ((sz : Int) + (k : Int)) = (sz : Int) + k := wrap_u64 (by omega) (by omega)
        have e4 : IntKind.u64.wrap ((ev : Int) + ((sz : Int) + (k : Int))) = (ev : Int) + sz + k := by rw [wrap_u64 (by omega) (by omega)]; omega
        have e5 : IntKind.i64.wrap ((sz : Int) + (k : Int) + 1) = (sz : Int) + k + 1 := wrap_i64 (by omega) (by omega)
        have e6 : IntKind.i64.wrap ((k : Int) + 1) = (k : Int) + 1 := wrap_i64 (by omega) (by omega)
        have hst := storeD_at (n := 1) (off := 4) (x := .int .i64 ((sz : Int) + k + 1)) (y' := [m, a, b, .int .u64 ev, .int .i64 ((sz : Int) + k + 1)]) hr2 hy rfl
        apply ex2
        · simp [Env.get_put, i2, i3, i4, i5, i6, e2, e3, e4, e5, e6, q1, q3, l3, l4, l5, loadD_row hs', p1, hst]
          exact ⟨rfl, rfl⟩
        · simp [Env.get_put, i1, i2, i3, i4, i5, p4, i8]
          refine ⟨?_, ?_, ?_⟩
          · exact (i7.trans (p3.mono (by simp))).sets (by simp)
          · rw [← lay_succ f (ev + sz) ws k q2]
            exact p2.same (by rw [Heap.get_set, if_neg n5])
          · simp [RowsAt, Heap.get_set, Ct.set, Int.add_assoc]
      · rintro e g ⟨i1, i2, i3, i4, i5, i6, i7, i8, i9, i10⟩
        apply ex2
        · simp [Env.get_put, i5, i6]
          exact ⟨rfl, rfl⟩
        · simp [i1, i8]
          exact ⟨i9, by simpa using i10, i7⟩
    · simp [j1, Env.get_put]
      exact ⟨j2, by simpa using j3, j4, j5⟩
end
end Go.D.FB
namespace Go.D.FB
open Go.D
set_option maxRecDepth 100000
section
variable {d L : Nat} {h : Heap} {bm bw bs bl : Nat}

theorem push0_spec {ls v : AV} (hs : StackAt h bs bm ls) (hl : lenD h .sl ls = some 0) : callF tabT.get? L (d + 3) (.fn 10) [.ptr bs 0 0, v] h = .ok (.bool false) h := by
  refine callF_run (fn := d10) rfl rfl ?_
  simp [d10, Env.get_put, top_spec0 hs hl, eqAV]
theorem pop0_spec {ls : AV} {k : Int} (hs : StackAt h bs bm ls) (hl : lenD h .sl ls = some 0) : callF tabT.get? L (d + 3) (.fn 13) [.ptr bs 0 0, .int .i64 k] h = .ok .nils h := by
  refine callF_run (fn := d13) rfl rfl ?_
  simp [d13, Env.get_put, top_spec0 hs hl, eqAV]
theorem var0_spec {ls : AV} {k : Int} (hs : StackAt h bs bm ls) (hl : lenD h .sl ls = some 0) : callF tabT.get? L (d + 3) (.fn 37) [.ptr bs 0 0, .int .i64 k] h = .ok (.int .u64 0) h := by
  refine callF_run (fn := d37) rfl rfl ?_
  simp [d37, Env.get_put, top_spec0 hs hl, eqAV]

theorem pop_no {n sz : Nat} {es : List (List AV)} {m a b e : AV} {k : Int} (hs : StackAt h bs bm (.slice 5 bl 0 (n + 1) none))
    (hr : RowsAt h bl es) (hn : n < 1000) (he : es[n]? = some [m, a, b, e, .int .i64 sz]) (hk : k < 0 ∨ sz < k) :
    callF tabT.get? L (d + 3) (.fn 13) [.ptr bs 0 0, .int .i64 k] h = .ok .nils h := by
  have ht := top_spec (d := d) (L := L) hs hn
  have hld := loadD_at (k := none) (off := 4) hr (y := [m, a, b, e, .int .i64 sz]) he
  simp at hld
  refine callF_run (fn := d13) rfl rfl ?_
  by_cases h1 : k < 0
  · simp [d13, Env.get_put, ht, eqAV, h1]
  · have h2 : (sz : Int) < k := by omega
    simp [d13, Env.get_put, ht, eqAV, h1, hld, h2]

theorem pop_spec {f : Nat → Int} {n ev sz k : Nat} {es : List (List AV)} {m a b : AV} (hm : MemAt h bm bw) (hs : StackAt h bs bm (.slice 5 bl 0 (n + 1) none)) (hw : WordsAt h bw 16396 f)
    (hr : RowsAt h bl es) (hn : n < 1000) (he : es[n]? = some [m, a, b, .int .u64 ev, .int .i64 sz]) (hev2 : ev + 96 ≤ 16396) (hsz : sz ≤ 96) (hk : k ≤ sz) (hL : 1000 < L)
    (hbm : bm < h.next) (hbw : bw < h.next) (hbs : bs < h.next) (hbl : bl < h.next) (n1 : bm ≠ bl) (n2 : bs ≠ bl) (n3 : bw ≠ bl) :
    ∃ h', callF tabT.get? L (d + 3) (.fn 13) [.ptr bs 0 0, .int .i64 k] h = .ok (.slice 1 h.next 0 k (some k)) h' ∧ WordsAt h' h.next k (fun i => f (ev + (sz - k) + i)) ∧
      RowsAt h' bl (es.set n [m, a, b, .int .u64 ev, .int .i64 ((sz - k : Nat) : Int)]) ∧ Touch h h' [bl] ∧ h.next < h'.next := by
  have ht := top_spec (d := d) (L := L) hs hn
  have hld := loadD_at (k := none) (off := 4) hr (y := [m, a, b, .int .u64 ev, .int .i64 sz]) he
  simp at hld
  have e0 : IntKind.i64.wrap ((sz : Int) - k) = ((sz - k : Nat) : Int) := by rw [wrap_i64 (by omega) (by omega)]; omega
  have e1 : ((k : Int) < 0) = False := by simp
  have e2 : ((sz : Int) < k) = False := by simp; omega
  have hst := storeD_at (n := 1) (off := 4) (x := .int .i64 ((sz - k : Nat) : Int)) (y' := [m, a, b, .int .u64 ev, .int .i64 ((sz - k : Nat) : Int)]) hr he rfl
  have hlen : n < es.length := (List.getElem?_eq_some_iff.1 he).1
  let g := h.set bl (.cells 5 true (.list (es.set n [m, a, b, .int .u64 ev, .int .i64 ((sz - k : Nat) : Int)])))
  have ht2 : Touch h g [bl] := Touch.set (by simp)
  have hr2 : RowsAt g bl (es.set n [m, a, b, .int .u64 ev, .int .i64 ((sz - k : Nat) : Int)]) := by simp [g, RowsAt, Heap.get_set]
  have hy : (es.set n [m, a, b, AV.int IntKind.u64 ev, AV.int IntKind.i64 ((sz - k : Nat) : Int)])[n]? = some [m, a, b, AV.int IntKind.u64 ev, AV.int IntKind.i64 ((sz - k : Nat) : Int)] := by
    rw [List.getElem?_set]; simp [hlen]
  have l3 := loadD_at (k := none) (off := 3) hr2 hy
  have l4 := loadD_at (k := none) (off := 4) hr2 hy
  simp at l3 l4
  obtain ⟨h', p1, p2, p3, p4⟩ := words_spec (d := d) (L := L) (n := k) (at_ := ev + (sz - k)) (hm.touch ht2 hbm (by simp [n1])) (hs.touch ht2 hbs (by simp [n2])) (hw.same (ht2.2 _ hbw (by simp [n3]))) (by omega) (by omega) hL hbm hbw hbs
  simp only [Int.natCast_add] at p1
  have e3 : IntKind.u64.wrap ((sz - k : Nat) : Int) = ((sz - k : Nat) : Int) := wrap_u64 (by omega) (by omega)
  have e4 : IntKind.u64.wrap ((ev : Int) + ((sz - k : Nat) : Int)) = (ev : Int) + ((sz - k : Nat) : Int) := wrap_u64 (by omega) (by omega)
  refine ⟨h', callF_run (fn := d13) rfl rfl ?_, p2, hr2.touch2 p3 hbl, ht2.trans (p3.mono (by simp)), p4⟩
  have hg : h.set bl (.cells 5 true ((Ct.list es).set n [m, a, b, .int .u64 ev, .int .i64 ((sz - k : Nat) : Int)])) = g := rfl
  rw [hg] at hst
  simp [d13, Env.get_put, ht, eqAV, e0, e1, e2, e3, e4, hld, hst, l3, l4, p1]
  rfl

theorem var_no {n : Nat} {k : Int} (hs : StackAt h bs bm (.slice 5 bl 0 (n + 1) none)) (hn : n < 1000) (hk : k < 0 ∨ 152 ≤ k) :
    callF tabT.get? L (d + 3) (.fn 37) [.ptr bs 0 0, .int .i64 k] h = .ok (.int .u64 0) h := by
  have ht := top_spec (d := d) (L := L) hs hn
  refine callF_run (fn := d37) rfl rfl ?_
  by_cases h1 : k < 0
  · simp [d37, Env.get_put, ht, eqAV, h1]
  · have h2 : 152 ≤ k := by omega
    simp [d37, Env.get_put, ht, eqAV, h1, h2]
theorem var_spec {n k base : Nat} {es : List (List AV)} {m a e s : AV} (hs : StackAt h bs bm (.slice 5 bl 0 (n + 1) none)) (hr : RowsAt h bl es) (hn : n < 1000) (he : es[n]? = some [m, a, .int .u64 base, e, s])
    (hk : k < 152) (hb : base < 100000) : callF tabT.get? L (d + 3) (.fn 37) [.ptr bs 0 0, .int .i64 k] h = .ok (.int .u64 ((base + k : Nat) : Int)) h := by
  have ht := top_spec (d := d) (L := L) hs hn
  have hld := loadD_at (k := none) (off := 2) hr (y := [m, a, .int .u64 base, e, s]) he
  simp at hld
  have e1 : ((k : Int) < 0) = False := by simp
  have e2 : ((152 : Int) ≤ k) = False := by simp; omega
  have e3 : IntKind.u64.wrap (k : Int) = k := wrap_u64 (by omega) (by omega)
  have e4 : IntKind.u64.wrap ((base : Int) + (k : Int)) = (base : Int) + k := wrap_u64 (by omega) (by omega)
  refine callF_run (fn := d37) rfl rfl ?_
  simp [d37, Env.get_put, ht, eqAV, e1, e2, e3, e4, hld]

theorem clear_no {ls : AV} {n : Nat} {k : Int} (hs : StackAt h bs bm ls) (hl : lenD h .sl ls = some n) (hk : k < 0 ∨ n ≤ k) : callF tabT.get? L (d + 2) (.fn 33) [.ptr bs 0 0, .int .i64 k] h = .ok (.tup []) h := by
  refine callF_run (fn := d33) rfl rfl ?_
  have e1 : (decide (0 ≤ k) && decide (k < n)) = false := by simp; omega
  simp [d33, Env.get_put, there_spec hs hl, e1]
theorem clear_spec {n k : Nat} {es : List (List AV)} {m a b e s : AV} (hs : StackAt h bs bm (.slice 5 bl 0 n none)) (hr : RowsAt h bl es) (hk : k < n) (he : es[k]? = some [m, a, b, e, s]) :
    callF tabT.get? L (d + 2) (.fn 33) [.ptr bs 0 0, .int .i64 k] h = .ok (.tup []) (h.set bl (.cells 5 true (.list (es.set k [m, a, b, e, .int .i64 0])))) := by
  have hst := storeD_at (n := 1) (off := 4) (x := .int .i64 0) (y' := [m, a, b, e, .int .i64 0]) hr he rfl
  refine callF_run (fn := d33) rfl rfl ?_
  have e1 : ((k : Int) < n) = True := by simp; omega
  simp [d33, Env.get_put, there_spec hs (n := n) rfl, e1, hk, loadD_row hs, hst, Ct.set]
theorem move_no {ls : AV} {n : Nat} {k x : Int} (hs : StackAt h bs bm ls) (hl : lenD h .sl ls = some n) (hk : k < 0 ∨ n ≤ k) : callF tabT.get? L (d + 2) (.fn 35) [.ptr bs 0 0, .int .i64 k, .int .i64 x] h = .ok (.tup []) h := by
  refine callF_run (fn := d35) rfl rfl ?_
  have e1 : (decide (0 ≤ k) && decide (k < n)) = false := by simp; omega
  simp [d35, Env.get_put, there_spec hs hl, e1]
theorem move_spec {n k : Nat} {es : List (List AV)} {m a b e s : AV} {x : Int} (hs : StackAt h bs bm (.slice 5 bl 0 n none)) (hr : RowsAt h bl es) (hk : k < n) (he : es[k]? = some [m, a, b, e, s]) :
    callF tabT.get? L (d + 2) (.fn 35) [.ptr bs 0 0, .int .i64 k, .int .i64 x] h = .ok (.tup []) (h.set bl (.cells 5 true (.list (es.set k [m, .int .i64 x, b, e, s])))) := by
  have hst := storeD_at (n := 1) (off := 1) (x := .int .i64 x) (y' := [m, .int .i64 x, b, e, s]) hr he rfl
  refine callF_run (fn := d35) rfl rfl ?_
  have e1 : ((k : Int) < n) = True := by simp; omega
  simp [d35, Env.get_put, there_spec hs (n := n) rfl, e1, hk, loadD_row hs, hst, Ct.set]

theorem leave_no {ls : AV} (hs : StackAt h bs bm ls) (hl : lenD h .sl ls = some 0) : callF tabT.get? L (d + 2) (.fn 16) [.ptr bs 0 0] h = .ok (.bool false) h := by
  refine callF_run (fn := d16) rfl rfl ?_
  simp [d16, Env.get_put, depth_spec hs hl]
theorem leave_spec {n : Nat} {es : List (List AV)} (hs : StackAt h bs bm (.slice 5 bl 0 (n + 1) none)) (hr : RowsAt h bl es) (hn : n < 1000) (hl : n + 1 ≤ es.length) :
    callF tabT.get? L (d + 2) (.fn 16) [.ptr bs 0 0] h = .ok (.bool true) (h.set bs (.cells 3 false (.list [[.ptr bm 0 0, .int .i64 64, .slice 5 bl 0 n none]]))) := by
  have hst := storeD_row (n := 1) (off := 2) (x := .slice 5 bl 0 n none) (y' := [.ptr bm 0 0, .int .i64 64, .slice 5 bl 0 n none]) hs rfl
  have e1 : ((n : Int) + 1 = 0) = False := by simp; omega
  have e2 : IntKind.i64.wrap (n : Int) = n := wrap_i64 (by omega) (by omega)
  have e3 : n ≤ es.length := by omega
  have e4 : 0 < es.length := by omega
  refine callF_run (fn := d16) rfl rfl ?_
  simp [d16, Env.get_put, depth_spec hs (n := n + 1) rfl, lenD, e1, e2, loadD_row hs, sliceN, hr.eq, capLow, Ct.size, nble, nblt, e3, e4, hst]
end
end Go.D.FB
namespace Go.D.FB
open Go.D
set_option maxRecDepth 100000
section
variable {d L : Nat} {h : Heap} {bm bw bs bl : Nat}

/-- the first element of a new frame -/
def newP (m at_ : Int) (base start : Nat) : List AV := [.int .i64 m, .int .i64 at_, .int .u64 base, .int .u64 ((start : Int) + 152), .int .i64 0]

theorem enter_no {ls v : AV} {es : List (List AV)} {ws : List Int} {m x : Int} (hs : StackAt h bs bm ls) (ho : OpenS 5 h ls es) (hv : ReadsW h v ws) (hn : es.length < 1000)
    (hc : 64 ≤ es.length ∨ x < ws.length ∨ 152 < x) :
    callF tabT.get? L (d + 3) (.fn 15) [.ptr bs 0 0, .int .i64 m, .int .i64 x, v] h = .ok (.bool false) h := by
  refine callF_run (fn := d15) rfl rfl ?_
  by_cases h1 : 64 ≤ es.length
  · simp [d15, Env.get_put, full_spec hs ho.len, h1]
  · by_cases h2 : x < ws.length
    · simp [d15, Env.get_put, full_spec hs ho.len, h1, hv.len, h2]
    · have h3 : 152 < x := by omega
      simp [d15, Env.get_put, full_spec hs ho.len, h1, hv.len, h2, h3]

theorem enter_spec {ls v : AV} {es : List (List AV)} {ws : List Int} {f : Nat → Int} {m x : Int} (hm : MemAt h bm bw) (hs : StackAt h bs bm ls) (ho : OpenS 5 h ls es) (hw : WordsAt h bw 16396 f) (hv : ReadsW h v ws)
    (h1 : es.length < 64) (h2 : ¬ x < ws.length) (h3 : ¬ 152 < x) (hL : 1000 < L)
    (hbm : bm < h.next) (hbw : bw < h.next) (hbs : bs < h.next) (n1 : bm ≠ bw) (n2 : bs ≠ bw) (n3 : bm ≠ bs) (hbl : ∀ b, ls.blk = some b → b < h.next ∧ b ≠ bm ∧ b ≠ bw ∧ b ≠ bs)
    (hvb : ∀ b, v.blk = some b → b < h.next ∧ b ≠ bw) :
    ∃ h' ls', callF tabT.get? L (d + 3) (.fn 15) [.ptr bs 0 0, .int .i64 m, .int .i64 x, v] h = .ok (.bool true) h' ∧ StackAt h' bs bm ls' ∧ OpenS 5 h' ls' (es ++ [newP m 0 (12 + 256 * es.length) (12 + 256 * es.length)]) ∧
      WordsAt h' bw 16396 (lay (lay f (12 + 256 * es.length) [] 256) (12 + 256 * es.length) ws ws.length) ∧ Touch h h' (bw :: bs :: ls.blk.toList) ∧ (ls'.blk = ls.blk ∨ ∃ b, ls'.blk = some b ∧ h.next ≤ b ∧ b < h'.next) := by
  suffices hh : ∃ h' ls', finishF d15.results (evd (callF tabT.get? L (d + 2)) L false d15.body (startEnv [.ptr bs 0 0, .int .i64 m, .int .i64 x, v]) h) = .ok (.bool true) h' ∧ StackAt h' bs bm ls' ∧
      OpenS 5 h' ls' (es ++ [newP m 0 (12 + 256 * es.length) (12 + 256 * es.length)]) ∧
      WordsAt h' bw 16396 (lay (lay f (12 + 256 * es.length) [] 256) (12 + 256 * es.length) ws ws.length) ∧ Touch h h' (bw :: bs :: ls.blk.toList) ∧ (ls'.blk = ls.blk ∨ ∃ b, ls'.blk = some b ∧ h.next ≤ b ∧ b < h'.next) by
    obtain ⟨h', ls', q1, q2⟩ := hh
    exact ⟨h', ls', callF_run (fn := d15) rfl rfl q1, q2⟩
  have h1' : ¬ 64 ≤ es.length := by omega
  have hst := start_spec (d := d) (L := L) hm hs ho.len (by omega) ho.beq
  generalize ha : 12 + 256 * es.length = a at *
  have hwl : ws.length ≤ 152 := by omega
  simp [d15, Env.get_put, full_spec hs ho.len, h1', hv.len, h2, h3, hst]
  generalize hrr : rounds _ _ _ _ = o
  obtain ⟨e', h', rfl, j1, j2, j3, j4, j5, j6, j7, j8⟩ : ∃ e' h', o = .go (.exit 0) e' h' ∧ noDs e' = true ∧ e'.get 0 = .ptr bs 0 0 ∧ e'.get 1 = .int .i64 m ∧ e'.get 3 = v ∧ e'.get 9 = .int .u64 a ∧
      WordsAt h' bw 16396 (lay f a [] 256) ∧ Touch h h' [bw] ∧ h'.next = h.next := by
    refine loop_exit (id := 0) hrr 256 (fun k e g => noDs e = true ∧ e.get 0 = .ptr bs 0 0 ∧ e.get 1 = .int .i64 m ∧ e.get 3 = v ∧ e.get 9 = .int .u64 a ∧ e.get 27 = .int .u64 k ∧ Touch h g [bw] ∧ g.next = h.next ∧
      WordsAt g bw 16396 (lay f a [] k)) (by omega) ?_ ?_ ?_
    · simp [Env.get_put, lay_zero, hw]
      exact .refl _ _
    · rintro k hk e g ⟨i1, i2, i3, i4, i5, i6, i7, i8, i9⟩
      obtain ⟨g2, p1, p2, p3, p4⟩ := put_spec (d := d + 1) (L := L) (at_ := a + k) (x := 0) (hm.touch i7 hbm (by simp [n1])) i9 (by omega) (by omega)
      simp only [Int.natCast_add] at p1
      have e2 : ((k : Int) < 256) = True := by simp; omega
      have e3 : IntKind.u64.wrap ((a : Int) + (k : Int)) = (a : Int) + k := wrap_u64 (by omega) (by omega)
      have e4 : IntKind.u64.wrap ((k : Int) + 1) = (k : Int) + 1 := wrap_u64 (by omega) (by omega)
      apply ex2
      · simp [Env.get_put, i2, i5, i6, e2, e3, e4, loadD_row (hs.touch i7 hbs (by simp [n2])), p1]
        exact ⟨rfl, rfl⟩
      · simp [Env.get_put, i1, i2, i3, i4, i5, p4, i8]
        exact ⟨i7.trans p3, by rw [← zer_succ]; exact p2⟩
    · rintro e g ⟨i1, i2, i3, i4, i5, i6, i7, i8, i9⟩
      apply ex2
      · simp [Env.get_put, i6]
        exact ⟨rfl, rfl⟩
      · simp [Env.get_put, i1, i2, i3, i4, i5, i8]
        exact ⟨i9, i7⟩
  have hv2 : ReadsW h' v ws := hv.touch j7 fun b hb => by have := hvb b hb; simp [this]
  simp [Env.get_put, j4, hv2.len]
  generalize hrr2 : rounds _ _ _ _ = o2
  obtain ⟨e2, h2', rfl, c1, c2, c3, c4, c5, c6, c7⟩ : ∃ e' h2, o2 = .go (.exit 2) e' h2 ∧ noDs e' = true ∧ e'.get 0 = .ptr bs 0 0 ∧ e'.get 1 = .int .i64 m ∧ e'.get 9 = .int .u64 a ∧
      WordsAt h2 bw 16396 (lay (lay f a [] 256) a ws ws.length) ∧ Touch h h2 [bw] ∧ h2.next = h.next := by
    refine loop_exit (id := 2) hrr2 ws.length (fun k e g => noDs e = true ∧ e.get 0 = .ptr bs 0 0 ∧ e.get 1 = .int .i64 m ∧ e.get 9 = .int .u64 a ∧ e.get 39 = v ∧ e.get 40 = .int .i64 ws.length ∧ e.get 41 = .int .i64 k ∧
      Touch h g [bw] ∧ g.next = h.next ∧ WordsAt g bw 16396 (lay (lay f a [] 256) a ws k)) (by omega) ?_ ?_ ?_
    · simp [Env.get_put, lay_zero, j1, j2, j3, j4, j5, j6, j7, j8]
    · rintro k hk e g ⟨i1, i2, i3, i4, i5, i6, i7, i8, i9, i10⟩
      obtain ⟨p, w, q1, q2, q3⟩ := (hv.touch i8 fun b hb => by have := hvb b hb; simp [this]).at_ k hk
      obtain ⟨g2, p1, p2, p3, p4⟩ := put_spec (d := d + 1) (L := L) (at_ := a + k) (x := w) (hm.touch i8 hbm (by simp [n1])) i10 (by omega) (by omega)
      simp only [Int.natCast_add] at p1
      have e2 : ((k : Int) < ws.length) = True := by simp; omega
      have e3 : IntKind.u64.wrap ((a : Int) + (k : Int)) = (a : Int) + k := wrap_u64 (by omega) (by omega)
      have e4 : IntKind.u64.wrap (k : Int) = (k : Int) := wrap_u64 (by omega) (by omega)
      have e5 : IntKind.i64.wrap ((k : Int) + 1) = (k : Int) + 1 := wrap_i64 (by omega) (by omega)
      apply ex2
      · simp [Env.get_put, i2, i4, i5, i6, i7, e2, e3, e4, e5, loadD_row (hs.touch i8 hbs (by simp [n2])), p1, q1, q3]
        exact ⟨rfl, rfl⟩
      · simp [Env.get_put, i1, i2, i3, i4, i5, i6, p4, i9]
        exact ⟨i8.trans p3, by rw [← lay_succ _ _ _ _ q2]; exact p2⟩
    · rintro e g ⟨i1, i2, i3, i4, i5, i6, i7, i8, i9, i10⟩
      apply ex2
      · simp [Env.get_put, i6, i7]
        exact ⟨rfl, rfl⟩
      · simp [Env.get_put, i1, i2, i3, i4, i9]
        exact ⟨i10, i8⟩
  have hs2 := hs.touch c6 hbs (by simp [n2])
  have ho2 : OpenS 5 h2' ls es := ho.touch c6 fun b hb => by have := hbl b hb; simp [this]
  let g2 := h2'.new (.cells 5 false (.list [newP m 0 a a]))
  have ho3 : OpenS 5 g2 ls es := ho2.touch (Touch.new (bs := [])) fun b hb => by have := hbl b hb; simp; omega
  obtain ⟨v', h3', a1, a2, a3, a4, a5⟩ := append_open (bytes := 40) (zs := [.int .i64 0, .int .i64 0, .int .u64 0, .int .u64 0, .int .i64 0]) (new := [newP m 0 a a]) ho3 rfl (by omega) (by simp [okElems, newP, AV.one]) (by simp) (by
    rw [roomy, nble, decide_eq_true_eq]; simp; omega)
  have e6 : IntKind.u64.wrap ((a : Int) + 152) = (a : Int) + 152 := wrap_u64 (by omega) (by omega)
  have hs3 : StackAt h3' bs bm ls := (hs2.touch (Touch.new (bs := [])) (by omega) (by simp)).touch a3 (by simp [g2]; omega) (by
    intro hh
    cases hb : ls.blk with
    | none => rw [hb] at hh; simp at hh
    | some b => rw [hb] at hh; simp at hh; have := hbl b hb; omega)
  obtain ⟨z, b, i, l, c, rfl⟩ : ∃ z b i l c, v' = .slice z b i l c := by
    cases v' <;> first | exact ⟨_, _, _, _, _, rfl⟩ | (exfalso; exact a5 rfl)
  have hst3 := storeD_row (n := 1) (off := 2) (x := .slice z b i l c) (y' := [.ptr bm 0 0, .int .i64 64, .slice z b i l c]) hs3 rfl
  simp only [newP, g2] at a1
  have hl3 := loadD_row (k := none) (off := 2) hs2
  simp at hl3
  have hbb : (AV.slice z b i l c).blk = some b := rfl
  have hnb : b ≠ bs ∧ b ≠ bw ∧ b ≠ bm ∧ (ls.blk = some b ∨ h.next ≤ b) := by
    rcases a4 with hh | hh
    · rw [hbb] at hh
      have := hbl b hh.symm
      exact ⟨this.2.2.2, this.2.2.1, this.2.1, .inl hh.symm⟩
    · rw [hbb] at hh
      have : b = h2'.next + 1 := by simpa [g2] using hh.1
      exact ⟨by omega, by omega, by omega, .inr (by omega)⟩
  have ht3 : Touch h h3' (bw :: bs :: ls.blk.toList) := ((c6.mono (by simp)).news).trans (a3.mono (fun x hx => by simp [hx]))
  refine ⟨h3'.set bs (.cells 3 false (.list [[.ptr bm 0 0, .int .i64 64, .slice z b i l c]])), ?_, .slice z b i l c, ?_, ?_, ?_, ht3.sets (by simp), ?_⟩
  · simp [Env.get_put, c1, c2, c3, c4, hl3, e6, newOf, fillS, fillC, AV.cells, AV.one, elemsOf, Heap.get_new, Ct.sub, nble, nblt, a1, hst3]
  · simp [StackAt, Heap.get_set]
  · rcases a2 with ⟨q, _⟩ | ⟨b', sp, q1, q2⟩
    · cases q
    · cases q1
      exact .inr ⟨b, sp, rfl, by rw [Heap.get_set, if_neg hnb.1]; exact q2⟩
  · have w2 : WordsAt g2 bw 16396 (lay (lay f a [] 256) a ws ws.length) := c5.same (by rw [Heap.get_new, if_neg (by omega)])
    have w3 : WordsAt h3' bw 16396 (lay (lay f a [] 256) a ws ws.length) := w2.same (a3.2 _ (by simp [g2]; omega) (by
      intro hh
      cases hb : ls.blk with
      | none => rw [hb] at hh; simp at hh
      | some b => rw [hb] at hh; simp at hh; have := hbl b hb; omega))
    exact w3.same (by rw [Heap.get_set, if_neg (Ne.symm n2)])
  · rcases a4 with hh | hh
    · exact .inl hh
    · rw [hbb] at hh
      have h5 : b = h2'.next + 1 := by simpa [g2] using hh.1
      have h6 : h3'.next = h2'.next + 2 := by simpa [g2] using hh.2
      exact .inr ⟨b, rfl, by omega, by simp; omega⟩
end
end Go.D.FB
namespace Go.D.FB
open Go.D
set_option maxRecDepth 100000
section
variable {d L : Nat} {h : Heap} {bm bw bs bl : Nat}

theorem filter_no {ls : AV} {es : List (List AV)} {k x : Int} (hs : StackAt h bs bm ls) (ho : OpenS 5 h ls es) (hc : 64 ≤ es.length ∨ k < 0 ∨ es.length ≤ k) :
    callF tabT.get? L (d + 4) (.fn 30) [.ptr bs 0 0, .int .i64 k, .int .u64 x] h = .ok (.bool false) h := by
  refine callF_run (fn := d30) rfl rfl ?_
  by_cases h1 : 64 ≤ es.length
  · simp [d30, Env.get_put, full_spec hs ho.len, h1]
  · have e1 : (decide (0 ≤ k) && decide (k < es.length)) = false := by simp; omega
    simp [d30, Env.get_put, full_spec hs ho.len, h1, there_spec hs ho.len, e1]

theorem filter_spec {ls : AV} {es : List (List AV)} {f : Nat → Int} {k base : Nat} {m a x ev sz : Int} (hm : MemAt h bm bw) (hs : StackAt h bs bm ls) (ho : OpenS 5 h ls es) (hw : WordsAt h bw 16396 f)
    (h1 : es.length < 64) (hk : k < es.length) (he : es[k]? = some [.int .i64 m, .int .i64 a, .int .u64 base, .int .u64 ev, .int .i64 sz]) (hL : 1000 < L)
    (hbm : bm < h.next) (hbw : bw < h.next) (hbs : bs < h.next) (n1 : bm ≠ bw) (n2 : bs ≠ bw) (n3 : bm ≠ bs) (hbl : ∀ b, ls.blk = some b → b < h.next ∧ b ≠ bm ∧ b ≠ bw ∧ b ≠ bs) :
    ∃ h' ls', callF tabT.get? L (d + 4) (.fn 30) [.ptr bs 0 0, .int .i64 k, .int .u64 x] h = .ok (.bool true) h' ∧ StackAt h' bs bm ls' ∧
      OpenS 5 h' ls' (es ++ [[.int .i64 m, .int .i64 a, .int .u64 base, .int .u64 (((12 + 256 * es.length : Nat) : Int) + 152), .int .i64 1]]) ∧
      WordsAt h' bw 16396 (lay (lay f (12 + 256 * es.length) [] 256) (12 + 256 * es.length + 152) [x] 1) ∧ Touch h h' (bw :: bs :: ls.blk.toList) ∧ (ls'.blk = ls.blk ∨ ∃ b, ls'.blk = some b ∧ h.next ≤ b ∧ b < h'.next) := by
  suffices hh : ∃ h' ls', finishF d30.results (evd (callF tabT.get? L (d + 3)) L false d30.body (startEnv [.ptr bs 0 0, .int .i64 k, .int .u64 x]) h) = .ok (.bool true) h' ∧ StackAt h' bs bm ls' ∧
      OpenS 5 h' ls' (es ++ [[.int .i64 m, .int .i64 a, .int .u64 base, .int .u64 (((12 + 256 * es.length : Nat) : Int) + 152), .int .i64 1]]) ∧
      WordsAt h' bw 16396 (lay (lay f (12 + 256 * es.length) [] 256) (12 + 256 * es.length + 152) [x] 1) ∧ Touch h h' (bw :: bs :: ls.blk.toList) ∧ (ls'.blk = ls.blk ∨ ∃ b, ls'.blk = some b ∧ h.next ≤ b ∧ b < h'.next) by
    obtain ⟨h', ls', q1, q2⟩ := hh
    exact ⟨h', ls', callF_run (fn := d30) rfl rfl q1, q2⟩
  have h1' : ¬ 64 ≤ es.length := by omega
  have hst := start_spec (d := d + 1) (L := L) hm hs ho.len (by omega) ho.beq
  have e1 : ((k : Int) < es.length) = True := by simp; omega
  generalize ha : 12 + 256 * es.length = s at *
  obtain ⟨b0, sp, rfl, hb0⟩ : ∃ b sp, ls = .slice 5 b 0 es.length none ∧ h.get b = some (.cells 5 true (.list (es ++ sp))) := by
    rcases ho with ⟨_, rfl⟩ | hh
    · simp at hk
    · exact hh
  have hbl0 := hbl b0 rfl
  simp [d30, Env.get_put, full_spec hs ho.len, h1', there_spec hs ho.len, e1, hk, hst]
  generalize hrr : rounds _ _ _ _ = o
  obtain ⟨e', h', rfl, j1, j2, j3, j4, j5, j6, j7, j8⟩ : ∃ e' h', o = .go (.exit 0) e' h' ∧ noDs e' = true ∧ e'.get 0 = .ptr bs 0 0 ∧ e'.get 1 = .int .i64 k ∧ e'.get 2 = .int .u64 x ∧ e'.get 7 = .int .u64 s ∧
      WordsAt h' bw 16396 (lay f s [] 256) ∧ Touch h h' [bw] ∧ h'.next = h.next := by
    refine loop_exit (id := 0) hrr 256 (fun i e g => noDs e = true ∧ e.get 0 = .ptr bs 0 0 ∧ e.get 1 = .int .i64 k ∧ e.get 2 = .int .u64 x ∧ e.get 7 = .int .u64 s ∧ e.get 20 = .int .u64 i ∧ Touch h g [bw] ∧ g.next = h.next ∧
      WordsAt g bw 16396 (lay f s [] i)) (by omega) ?_ ?_ ?_
    · simp [Env.get_put, lay_zero, hw]
      exact .refl _ _
    · rintro k hk e g ⟨i1, i2, i3, i4, i5, i6, i7, i8, i9⟩
      obtain ⟨g2, p1, p2, p3, p4⟩ := put_spec (d := d + 2) (L := L) (at_ := s + k) (x := 0) (hm.touch i7 hbm (by simp [n1])) i9 (by omega) (by omega)
      simp only [Int.natCast_add] at p1
      have e2 : ((k : Int) < 256) = True := by simp; omega
      have e3 : IntKind.u64.wrap ((s : Int) + (k : Int)) = (s : Int) + k := wrap_u64 (by omega) (by omega)
      have e4 : IntKind.u64.wrap ((k : Int) + 1) = (k : Int) + 1 := wrap_u64 (by omega) (by omega)
      apply ex2
      · simp [Env.get_put, i2, i5, i6, e2, e3, e4, loadD_row (hs.touch i7 hbs (by simp [n2])), p1]
        exact ⟨rfl, rfl⟩
      · simp [Env.get_put, i1, i2, i3, i4, i5, p4, i8]
        exact ⟨i7.trans p3, by rw [← zer_succ]; exact p2⟩
    · rintro e g ⟨i1, i2, i3, i4, i5, i6, i7, i8, i9⟩
      apply ex2
      · simp [Env.get_put, i6]
        exact ⟨rfl, rfl⟩
      · simp [Env.get_put, i1, i2, i3, i4, i5, i8]
        exact ⟨i9, i7⟩
  -- the new frame
  have hs2 := hs.touch j7 hbs (by simp [n2])
  have ho2 : OpenS 5 h' (.slice 5 b0 0 es.length none) es := ho.touch j7 fun b hb => by have := hbl b hb; simp [this]
  have hb2 : h'.get b0 = some (.cells 5 true (.list (es ++ sp))) := by rw [j7.2 _ hbl0.1 (by simp [hbl0.2.2.1])]; exact hb0
  have hes : (es ++ sp)[k]? = some [.int .i64 m, .int .i64 a, .int .u64 base, .int .u64 ev, .int .i64 sz] := by rw [List.getElem?_append_left hk]; exact he
  have hl2 := loadD_row (k := none) (off := 2) hs2
  have hlk := loadD_at (k := some 5) (off := 0) hb2 hes
  simp [readC] at hl2 hlk
  let zf : List AV := [.int .i64 0, .int .i64 0, .int .u64 0, .int .u64 0, .int .i64 0]
  let fr : List AV := [.int .i64 m, .int .i64 a, .int .u64 base, .int .u64 ev, .int .i64 sz]
  let g1 := (h'.new (.cells 5 false (.list [zf]))).set h'.next (.cells 5 false (.list [fr]))
  have hne : ∀ {b}, b < h.next → b ≠ h'.next := fun hb => by omega
  have hg1 : ∀ b, b < h.next → g1.get b = h'.get b := fun b hb => by simp only [g1]; rw [Heap.get_set, if_neg (hne hb), Heap.get_new, if_neg (hne hb)]
  have hst1 : storeD (h'.new (.cells 5 false (.list [zf]))) 5 (.ptr h'.next 0 0) (.agg fr) = .ok (.tup []) g1 := storeD_row (y := zf) (by rw [Heap.get_new, if_pos rfl]) rfl
  have hgn : g1.get h'.next = some (.cells 5 false (.list [fr])) := by simp only [g1]; rw [Heap.get_set, if_pos rfl]
  have lf0 := loadD_row (k := none) (off := 0) hgn
  have lf1 := loadD_row (k := none) (off := 1) hgn
  have lf2 := loadD_row (k := none) (off := 2) hgn
  have hs3 : StackAt g1 bs bm (.slice 5 b0 0 es.length none) := by unfold StackAt; rw [hg1 _ hbs]; exact hs2
  have hl3 := loadD_row (k := none) (off := 2) hs3
  simp [fr] at lf0 lf1 lf2 hl3
  let g2 := g1.new (.cells 5 false (.list [newP m a base s]))
  have hg1n : g1.next = h.next + 1 := by simp [g1, j8]
  have hg2 : ∀ b, b < h.next → g2.get b = h'.get b := fun b hb => by simp only [g2]; rw [Heap.get_new, if_neg (by omega)]; exact hg1 b hb
  have ho3 : OpenS 5 g2 (.slice 5 b0 0 es.length none) es := .inr ⟨b0, sp, rfl, by rw [hg2 _ hbl0.1]; exact hb2⟩
  obtain ⟨v', h3', a1, a2, a3, a4, a5⟩ := append_open (bytes := 40) (zs := zf) (new := [newP m a base s]) ho3 rfl (by simp [zf]) (by simp [okElems, newP, AV.one, zf]) (by simp) (by
    rw [roomy, nble, decide_eq_true_eq]; simp; omega)
  have e6 : IntKind.u64.wrap ((s : Int) + 152) = (s : Int) + 152 := wrap_u64 (by omega) (by omega)
  obtain ⟨z, b, i, l, c, rfl⟩ : ∃ z b i l c, v' = .slice z b i l c := by
    cases v' <;> first | exact ⟨_, _, _, _, _, rfl⟩ | (exfalso; exact a5 rfl)
  obtain ⟨b', sp', q1, q2⟩ : ∃ b' sp', AV.slice z b i l c = .slice 5 b' 0 (es ++ [newP m a base s]).length none ∧ h3'.get b' = some (.cells 5 true (.list (es ++ [newP m a base s] ++ sp'))) := by
    rcases a2 with ⟨q, _⟩ | hh
    · cases q
    · exact hh
  cases q1
  have hnb : b ≠ bs ∧ b ≠ bw ∧ b ≠ bm ∧ (b = b0 ∨ h.next ≤ b) ∧ b < h3'.next := by
    have h30 : g2.next ≤ h3'.next := a3.1
    have hgg : g2.next = h.next + 2 := by simp [g2, hg1n]
    rcases a4 with hh | ⟨hh, h3n⟩
    · have : b = b0 := by simpa [AV.blk] using hh
      subst this
      exact ⟨hbl0.2.2.2, hbl0.2.2.1, hbl0.2.1, .inl rfl, by omega⟩
    · have : b = g2.next := by simpa [AV.blk] using hh
      exact ⟨by omega, by omega, by omega, .inr (by omega), by omega⟩
  have hgg : g2.next = h.next + 2 := by simp [g2, hg1n]
  have ht23 : ∀ x, x < h.next → x ≠ b0 → h3'.get x = h'.get x := fun x hx hn => by rw [a3.2 x (by omega) (by simpa [AV.blk] using hn)]; exact hg2 x hx
  have hs4 : StackAt h3' bs bm (.slice 5 b0 0 es.length none) := by unfold StackAt; rw [ht23 _ hbs (by omega)]; exact hs2
  let h4 := h3'.set bs (.cells 3 false (.list [[.ptr bm 0 0, .int .i64 64, .slice 5 b 0 (es ++ [newP m a base s]).length none]]))
  have hst4 : storeD h3' 1 (.ptr bs 0 2) (.slice 5 b 0 (es ++ [newP m a base s]).length none) = .ok (.tup []) h4 := storeD_row hs4 rfl
  let h5 := h4.new (.cells 1 false (.list [[.int .u64 x]]))
  have h4n : h4.next = h3'.next := rfl
  have h3n : h.next + 2 ≤ h3'.next := by have := a3.1; omega
  have hs5 : StackAt h5 bs bm (.slice 5 b 0 (es.length + 1) none) := by
    simp only [StackAt, h5]
    rw [Heap.get_new, if_neg (by omega)]
    simp [h4, Heap.get_set]
  have hr5 : RowsAt h5 b (es ++ [newP m a base s] ++ sp') := by
    simp only [RowsAt, h5]
    rw [Heap.get_new, if_neg (by omega)]
    simp only [h4]
    rw [Heap.get_set, if_neg hnb.1]; exact q2
  have h5old : ∀ x, x < h.next → x ≠ b0 → x ≠ bs → h5.get x = h'.get x := fun y hy n1 n2 => by
    simp only [h5]
    rw [Heap.get_new, if_neg (by omega)]
    simp only [h4]
    rw [Heap.get_set, if_neg n2]; exact ht23 y hy n1
  have hm5 : MemAt h5 bm bw := by
    obtain ⟨r1, r2, r3, r4, r5, rest, hm⟩ := hm
    exact ⟨r1, r2, r3, r4, r5, rest, by rw [h5old _ hbm (by omega) n3, j7.2 _ hbm (by simp [n1])]; exact hm⟩
  have hw5 : WordsAt h5 bw 16396 (lay f s [] 256) := j6.same (h5old _ hbw (by omega) (Ne.symm n2))
  have hv5 : ReadsW h5 (.slice 1 h4.next 0 1 (some 1)) [x] := ReadsW.slice (ws := [x]) (pre := []) (suf := []) (op := false) (by simp only [h5]; rw [Heap.get_new, if_pos rfl]; rfl) rfl
  have hnth : (es ++ [newP m a base s] ++ sp')[es.length]? = some [.int .i64 m, .int .i64 a, .int .u64 base, .int .u64 ((s + 152 : Nat) : Int), .int .i64 ((0 : Nat) : Int)] := by
    simp [newP]
  obtain ⟨h6, p1, p2, p3, p4, p5⟩ := (push_spec (d := d) (L := L) (sz := 0) hm5 hs5 hw5 hr5 (by omega) hnth (by omega) (by omega) (by omega) hv5 (by simp) hL (by simp [h5]; omega) (by simp [h5]; omega) (by simp [h5]; omega) (by simp [h5]; omega)
    n1 (Ne.symm hnb.2.2.1) n2 (Ne.symm hnb.1) (Ne.symm hnb.2.1) (fun y hy => by
      have : y = h4.next := by simpa [AV.blk] using hy.symm
      subst this
      simp [h5]; omega)).2 (by simp)
  refine ⟨h6, ?_, .slice 5 b 0 (es.length + 1) none, ?_, ?_, ?_, ?_, ?_⟩
  · simp only [newP, g2, zf] at a1
    simp only [zf, fr] at hst1
    simp only [h5] at p1
    simp [newP] at hst4 a1
    simp [Env.get_put, j1, j2, j3, j4, j5, hl2, hlk, hk, hst1, lf0, lf1, lf2, hl3, e6, newOf, fillS, fillC, AV.cells, AV.one, elemsOf, Heap.get_new, Ct.sub, nble, nblt, a1, hst4, p1]
  · exact hs5.touch p4 (by simp [h5]; omega) (by simp; omega)
  · refine .inr ⟨b, sp', ?_, ?_⟩
    · simp
    · rw [p3]
      simp [newP]
  · simpa using p2
  · refine ⟨by simp [p5, h5, h4n]; omega, fun y hy hn => ?_⟩
    simp [AV.blk] at hn
    have hyb : y ≠ b := by
      rcases hnb.2.2.2.1 with hh | hh <;> omega
    rw [p4.2 y (by simp [h5]; omega) (by simp [hyb]; omega), h5old y hy (by omega) (by omega)]
    exact j7.2 y hy (by simp; omega)
  · rcases hnb.2.2.2.1 with hh | hh
    · exact .inl (by rw [hh]; rfl)
    · exact .inr ⟨b, rfl, hh, by simp [p5, h5]; omega⟩
end
end Go.D.FB
namespace Go.D.FB
open Go.D
set_option maxRecDepth 100000
section
variable {d L : Nat} {h : Heap} {bm bw bs bl : Nat}

theorem frame_spec {f : Nat → Int} {n k ev sz : Nat} {es : List (List AV)} {m a base : Int} (hm : MemAt h bm bw) (hs : StackAt h bs bm (.slice 5 bl 0 n none)) (hw : WordsAt h bw 16396 f)
    (hr : RowsAt h bl es) (hk : k < n) (he : es[k]? = some [.int .i64 m, .int .i64 a, .int .u64 base, .int .u64 ev, .int .i64 sz]) (hev2 : ev + 96 ≤ 16396) (hsz : sz ≤ 96) (hL : 1000 < L)
    (hbm : bm < h.next) (hbw : bw < h.next) (hbs : bs < h.next) (hbl : bl < h.next) :
    ∃ h' b, callF tabT.get? L (d + 3) (.fn 27) [.ptr bs 0 0, .int .i64 k] h = .ok (.agg [.int .i64 m, .int .i64 a, .int .u64 base, .slice 1 b 0 sz (some sz)]) h' ∧ WordsAt h' b sz (fun i => f (ev + i)) ∧ Touch h h' [] ∧
      h.next ≤ b ∧ b < h'.next := by
  have e1 : ((k : Int) < n) = True := by simp; omega
  let zr : List AV := [.int .i64 0, .int .i64 0, .int .u64 0, .nils]
  let zf : List AV := [.int .i64 0, .int .i64 0, .int .u64 0, .int .u64 0, .int .i64 0]
  let fr : List AV := [.int .i64 m, .int .i64 a, .int .u64 base, .int .u64 ev, .int .i64 sz]
  let h1 := h.new (.cells 4 false (.list [zr]))
  let h2 := h1.new (.cells 5 false (.list [zf]))
  let h3 := h2.set h1.next (.cells 5 false (.list [fr]))
  have t1 : Touch h h1 [] := Touch.new
  have t3 : Touch h h3 [] := (t1.news).fresh (by simp [h1])
  have hs1 := hs.touch t1 hbs (by simp)
  have hr1 : RowsAt h1 bl es := hr.touch t1 hbl (by simp)
  have th := there_spec (d := d + 1) (L := L) (k := (k : Int)) hs1 (n := n) rfl
  have hl1 := loadD_row (k := none) (off := 2) hs1
  have hlk := loadD_at (k := some 5) (off := 0) hr1 he
  simp [readC] at hl1 hlk
  have hst1 : storeD h2 5 (.ptr h1.next 0 0) (.agg fr) = .ok (.tup []) h3 := storeD_row (y := zf) (by simp only [h2]; rw [Heap.get_new, if_pos rfl]) rfl
  have hgn : h3.get h1.next = some (.cells 5 false (.list [fr])) := by simp only [h3]; rw [Heap.get_set, if_pos rfl]
  have hrn : h3.get h.next = some (.cells 4 false (.list [zr])) := by
    simp only [h3, h2]
    rw [Heap.get_set, if_neg (by simp [h1]), Heap.get_new, if_neg (by simp [h1])]
    simp [h1, Heap.get_new]
  have h3n : h3.next = h.next + 2 := rfl
  obtain ⟨h4, p1, p2, p3, p4⟩ := words_spec (d := d) (L := L) (n := sz) (at_ := ev) (hm.touch t3 hbm (by simp)) (hs.touch t3 hbs (by simp)) (hw.same (t3.2 _ hbw (by simp))) (by omega) (by omega) hL (by omega) (by omega) (by omega)
  have hgn4 : h4.get h1.next = some (.cells 5 false (.list [fr])) := by rw [p3.2 _ (by simp [h3n, h1]) (by simp)]; exact hgn
  have hrn4 : h4.get h.next = some (.cells 4 false (.list [zr])) := by rw [p3.2 _ (by simp [h3n]) (by simp)]; exact hrn
  have lf0 := loadD_row (k := none) (off := 0) hgn
  have lf1 := loadD_row (k := none) (off := 1) hgn
  have lf2 := loadD_row (k := none) (off := 2) hgn
  have lf3 := loadD_row (k := none) (off := 3) hgn
  have lf4 := loadD_row (k := none) (off := 4) hgn
  have lg0 := loadD_row (k := none) (off := 0) hgn4
  have lg1 := loadD_row (k := none) (off := 1) hgn4
  have lg2 := loadD_row (k := none) (off := 2) hgn4
  simp [fr] at lf0 lf1 lf2 lf3 lf4 lg0 lg1 lg2
  let out : List AV := [.int .i64 m, .int .i64 a, .int .u64 base, .slice 1 h3.next 0 sz (some sz)]
  let h5 := h4.set h.next (.cells 4 false (.list [out]))
  have hst5 : storeD h4 4 (.ptr h.next 0 0) (.agg out) = .ok (.tup []) h5 := storeD_row hrn4 rfl
  have hr5 : loadD h5 (some 4) (.ptr h.next 0 0) = some (.agg out) := by
    rw [loadD_row (y := out) (by simp only [h5]; rw [Heap.get_set, if_pos rfl])]; rfl
  refine ⟨h5, h3.next, callF_run (fn := d27) rfl rfl ?_, p2.same (by simp only [h5]; rw [Heap.get_set, if_neg (by omega)]), (t3.trans p3).fresh (Nat.le_refl _), by omega, by simp [h5]; omega⟩
  simp only [h2, zf, fr] at hst1
  simp only [h1, zr] at *
  simp only [out] at hst5 hr5
  simp only [Heap.next_new] at hst1 lf0 lf1 lf2 lf3 lf4 lg0 lg1 lg2
  simp [d27, Env.get_put, th, e1, hk, hl1, hlk, hst1, lf0, lf1, lf2, lf3, lf4, p1, lg0, lg1, lg2, fillC, AV.cells, AV.one, nble, hst5, hr5]
end
end Go.D.FB
namespace Go.D.FB
open Go.D
set_option maxRecDepth 100000
section
variable {d L : Nat} {h : Heap} {bx : Nat}

/-- the reference's stack -/
def RefAt (h : Heap) (bx : Nat) (l : AV) : Prop := h.get bx = some (.cells 2 false (.list [[.int .i64 64, l]]))
theorem RefAt.touch {g : Heap} {bs : List Nat} {l : AV} (hm : RefAt h bx l) (ht : Touch h g bs) (hb : bx < h.next) (hn : bx ∉ bs) : RefAt g bx l := by
  unfold RefAt
  rw [ht.2 _ hb hn]; exact hm
theorem RefAt.set {l' : AV} : RefAt (h.set bx (.cells 2 false (.list [[.int .i64 64, l']]))) bx l' := by simp [RefAt, Heap.get_set]

theorem renter_no {l v : AV} {es : List (List AV)} {ws : List Int} {m x : Int} (hs : RefAt h bx l) (ho : OpenS 5 h l es) (hv : ReadsW h v ws)
    (hc : 64 ≤ es.length ∨ x < ws.length ∨ 152 < x) : callF tabT.get? L (d + 1) (.fn 29) [.ptr bx 0 0, .int .i64 m, .int .i64 x, v] h = .ok (.bool false) h := by
  refine callF_run (fn := d29) rfl rfl ?_
  by_cases h1 : 64 ≤ es.length
  · have e1 : ((64 : Int) ≤ es.length) = True := by simp; omega
    simp [d29, Env.get_put, loadD_row hs, ho.len, e1]
  · have e1 : ((64 : Int) ≤ es.length) = False := by simp; omega
    by_cases h2 : x < ws.length
    · simp [d29, Env.get_put, loadD_row hs, ho.len, e1, hv.len, h2]
    · have h3 : 152 < x := by omega
      simp [d29, Env.get_put, loadD_row hs, ho.len, e1, hv.len, h2, h3]

theorem renter_spec {l v : AV} {es : List (List AV)} {ws : List Int} {m x : Int} (hs : RefAt h bx l) (ho : OpenS 5 h l es) (hv : ReadsW h v ws)
    (h1 : es.length < 64) (h2 : ¬ x < ws.length) (h3 : ¬ 152 < x) (hL : 1000 < L) (hbx : bx < h.next) (hbl : ∀ b, l.blk = some b → b < h.next ∧ b ≠ bx) (hvb : ∀ b, v.blk = some b → b < h.next) :
    ∃ h' l' bv, callF tabT.get? L (d + 1) (.fn 29) [.ptr bx 0 0, .int .i64 m, .int .i64 x, v] h = .ok (.bool true) h' ∧ RefAt h' bx l' ∧
      OpenS 5 h' l' (es ++ [[.int .i64 m, .int .i64 0, .int .i64 es.length, .slice 1 bv 0 152 (some 152), .nils]]) ∧ WordsAt h' bv 152 (lay (fun _ => 0) 0 ws ws.length) ∧
      Touch h h' (bx :: l.blk.toList) ∧ h.next ≤ bv ∧ bv < h'.next ∧ l'.blk ≠ some bv ∧ (l'.blk = l.blk ∨ ∃ b, l'.blk = some b ∧ h.next ≤ b ∧ b < h'.next) := by
  have e1 : ((64 : Int) ≤ es.length) = False := by simp; omega
  have hwl : ws.length ≤ 152 := by omega
  let zr : List AV := [.int .i64 0, .int .i64 0, .int .i64 0, .nils, .nils]
  let f0 : List AV := [.int .i64 m, .int .i64 0, .int .i64 es.length, .nils, .nils]
  let g1 := h.new (.cells 5 false (.list [zr]))
  let g2 := g1.set h.next (.cells 5 false (.list [f0]))
  let g3 := g2.new (.cells 1 false (.list (List.replicate 152 [.int .u64 0])))
  let f1 : List AV := [.int .i64 m, .int .i64 0, .int .i64 es.length, .slice 1 g2.next 0 152 (some 152), .nils]
  let g4 := g3.set h.next (.cells 5 false (.list [f1]))
  have hn2 : g2.next = h.next + 1 := rfl
  have hn4 : g4.next = h.next + 2 := rfl
  have t2 : Touch h g2 [] := (Touch.new (bs := [])).fresh (Nat.le_refl _)
  have t4 : Touch h g4 [] := t2.news.fresh (Nat.le_refl _)
  have hst1 : storeD g1 5 (.ptr h.next 0 0) (.agg f0) = .ok (.tup []) g2 := storeD_row (y := zr) (by simp only [g1]; rw [Heap.get_new, if_pos rfl]) rfl
  have hst2 : storeD g3 1 (.ptr h.next 0 3) (.slice 1 g2.next 0 152 (some 152)) = .ok (.tup []) g4 := storeD_row (y := f0) (y' := f1) (by simp only [g3]; rw [Heap.get_new, if_neg (by omega)]; simp [g2, Heap.get_set]) rfl
  have hf4 : g4.get h.next = some (.cells 5 false (.list [f1])) := by simp [g4, Heap.get_set]
  have hw4 : WordsAt g4 g2.next 152 (fun _ => 0) := by
    refine ⟨false, .list (List.replicate 152 [.int .u64 0]), ?_, by simp [Ct.size], fun i hi => by simp only [Ct.get?, List.getElem?_replicate, if_pos hi]⟩
    simp only [g4]
    rw [Heap.get_set, if_neg (by omega)]
    simp only [g3]
    rw [Heap.get_new, if_pos rfl]
  suffices hh : ∃ h' l' bv, finishF d29.results (evd (callF tabT.get? L d) L false d29.body (startEnv [.ptr bx 0 0, .int .i64 m, .int .i64 x, v]) h) = .ok (.bool true) h' ∧ RefAt h' bx l' ∧
      OpenS 5 h' l' (es ++ [[.int .i64 m, .int .i64 0, .int .i64 es.length, .slice 1 bv 0 152 (some 152), .nils]]) ∧ WordsAt h' bv 152 (lay (fun _ => 0) 0 ws ws.length) ∧
      Touch h h' (bx :: l.blk.toList) ∧ h.next ≤ bv ∧ bv < h'.next ∧ l'.blk ≠ some bv ∧ (l'.blk = l.blk ∨ ∃ b, l'.blk = some b ∧ h.next ≤ b ∧ b < h'.next) by
    obtain ⟨h', l', bv, q1, q2⟩ := hh
    exact ⟨h', l', bv, callF_run (fn := d29) rfl rfl q1, q2⟩
  have hst1' := hst1
  have hst2' := hst2
  simp only [g1, zr, f0] at hst1'
  simp only [g3, hn2] at hst2'
  have hr : roomy 152 8 = true := rfl
  simp [-List.reduceReplicate, d29, Env.get_put, loadD_row hs, ho.len, e1, hv.len, h2, h3, fillC, AV.cells, AV.one, nble, nblt, newOf, hr, hst1', hst2', hn2]
  generalize hrr : rounds _ _ _ _ = o
  obtain ⟨e', h', rfl, j1, j2, j3, j4, j5, j6, j7⟩ : ∃ e' h', o = .go (.exit 0) e' h' ∧ noDs e' = true ∧ e'.get 0 = .ptr bx 0 0 ∧ e'.get 9 = .ptr h.next 0 0 ∧
      WordsAt h' g2.next 152 (lay (fun _ => 0) 0 ws ws.length) ∧ Touch h h' [] ∧ h'.next = h.next + 2 ∧ h'.get h.next = some (.cells 5 false (.list [f1])) := by
    refine loop_exit (id := 0) hrr ws.length (fun k e g => noDs e = true ∧ e.get 0 = .ptr bx 0 0 ∧ e.get 3 = v ∧ e.get 9 = .ptr h.next 0 0 ∧ e.get 10 = .int .i64 k ∧ Touch h g [] ∧ g.next = h.next + 2 ∧
      WordsAt g g2.next 152 (lay (fun _ => 0) 0 ws k) ∧ g.get h.next = some (.cells 5 false (.list [f1]))) (by omega) ?_ ?_ ?_
    · simp [Env.get_put, lay_zero, hw4, t4, hn4, hf4]
    · rintro k hk e g ⟨i1, i2, i3, i4, i5, i6, i7, i8, i9⟩
      obtain ⟨p, w, q1, q2, q3⟩ := (hv.touch i6 fun b hb => by have := hvb b hb; simp [this]).at_ k hk
      obtain ⟨op, ct, c1, c2, c3⟩ := i8
      have e2 : ((k : Int) < ws.length) = True := by simp; omega
      have e5 : IntKind.i64.wrap ((k : Int) + 1) = (k : Int) + 1 := wrap_i64 (by omega) (by omega)
      have hk2 : k < 152 := by omega
      have lf := loadD_row (k := none) (off := 3) i9
      simp [f1] at lf
      have hst := storeD_at (n := 1) (off := 0) (x := .int .u64 w) (y' := [.int .u64 w]) c1 (c3 k hk2) rfl
      have hlen := (hv.touch i6 fun b hb => by have := hvb b hb; simp [this]).len
      apply ex2
      · simp [Env.get_put, i2, i3, i4, i5, e2, e5, hlen, lf, q1, q3, hk2, hst]
        exact ⟨rfl, rfl⟩
      · simp [Env.get_put, i1, i2, i3, i4, i7]
        refine ⟨i6.fresh (by omega), ?_, ?_⟩
        · rw [← lay_succ _ _ _ _ q2]
          have := WordsAt.set (h := g) (b := g2.next) (x := w) (op := op) c2 c3 hk2
          simpa using this
        · rw [Heap.get_set, if_neg (by omega)]; exact i9
    · rintro e g ⟨i1, i2, i3, i4, i5, i6, i7, i8, i9⟩
      have hlen := (hv.touch i6 fun b hb => by have := hvb b hb; simp [this]).len
      apply ex2
      · simp [Env.get_put, i3, i5, hlen]
        exact ⟨rfl, rfl⟩
      · simp [Env.get_put, i1, i2, i4, i7]
        exact ⟨i8, i6, i9⟩
  have hs2 := hs.touch j5 hbx (by simp)
  have ho2 : OpenS 5 h' l es := ho.touch j5 fun b hb => by have := hbl b hb; simp [this]
  let g5 := h'.new (.cells 5 false (.list [f1]))
  have ho3 : OpenS 5 g5 l es := ho2.touch (Touch.new (bs := [])) fun b hb => by have := hbl b hb; simp; omega
  obtain ⟨v', h3', a1, a2, a3, a4, a5⟩ := append_open (bytes := 72) (zs := zr) (new := [f1]) ho3 rfl (by simp [zr]) (by simp [okElems, f1, zr, AV.one]) (by simp) (by
    rw [roomy, nble, decide_eq_true_eq]; simp; omega)
  have hnl : ∀ x, x < h'.next → l.blk ≠ some x → h3'.get x = h'.get x := fun y hy hn => by
    rw [a3.2 y (by simp [g5]; omega) (by simpa using fun hh => hn hh)]
    simp only [g5]
    rw [Heap.get_new, if_neg (by omega)]
  have hs3 : RefAt h3' bx l := by
    unfold RefAt
    rw [hnl _ (by omega) (fun hh => (hbl _ hh).2 rfl)]; exact hs2
  have hst3 := storeD_row (n := 1) (off := 1) (x := v') (y' := [.int .i64 64, v']) hs3 (by simp [writeC, a2.cells, a2.one, nble])
  have lb := loadD_row (k := some 5) (off := 0) j7
  have hl2 := loadD_row (k := none) (off := 1) hs2
  simp [readC, f1] at lb hl2
  have hg5n : g5.next = h.next + 3 := by simp [g5, j6]
  have hbv : g2.next = h.next + 1 := rfl
  have hvblk : v'.blk = l.blk ∨ (v'.blk = some (h.next + 3) ∧ h3'.next = h.next + 4) := by rw [hg5n] at a4; exact a4
  have hnv : ∀ b, v'.blk = some b → b ≠ bx ∧ b ≠ h.next + 1 := fun b hb => by
    rcases hvblk with hh | ⟨hh, _⟩
    · rw [hh] at hb; have := hbl b hb; omega
    · rw [hh] at hb; cases hb; omega
  have h3n : h.next + 3 ≤ h3'.next := by have := a3.1; omega
  refine ⟨h3'.set bx (.cells 2 false (.list [[.int .i64 64, v']])), ?_, v', .set, g2.next, ?_, ?_, ?_, by omega, by simp; omega, fun hh => (hnv _ hh).2 rfl, ?_⟩
  · simp only [g5, f1, zr] at a1
    simp [Env.get_put, j1, j2, j3, lb, hl2, newOf, fillS, AV.cells, AV.one, nblt, elemsOf, Heap.get_new, Ct.sub, nble, a1, hst3]
  · exact a2.touch (Touch.set (bs := [bx]) (by simp)) fun b hb => by
      have := (hnv b hb).1
      refine ⟨?_, by simpa using this⟩
      rcases hvblk with hh | ⟨hh, hh2⟩
      · rw [hh] at hb; have := hbl b hb; omega
      · rw [hh] at hb; cases hb; omega
  · refine j4.same ?_
    rw [Heap.get_set, if_neg (by omega)]
    refine hnl _ (by omega) fun hh => ?_
    have := hbl _ hh; omega
  · refine ⟨by simp; omega, fun y hy hn => ?_⟩
    simp at hn
    rw [Heap.get_set, if_neg hn.1, hnl y (by omega) hn.2]
    exact j5.2 y hy (by simp)
  · rcases hvblk with hh | ⟨hh, hh2⟩
    · exact .inl hh
    · exact .inr ⟨_, hh, by omega, by simp; omega⟩
end
end Go.D.FB
namespace Go.D.FB
open Go.D
set_option maxRecDepth 100000
section
variable {d L : Nat} {h : Heap} {bx : Nat}

theorem rfilter_no {l : AV} {es : List (List AV)} {k x : Int} (hs : RefAt h bx l) (ho : OpenS 5 h l es) (hc : 64 ≤ es.length ∨ k < 0 ∨ es.length ≤ k) :
    callF tabT.get? L (d + 1) (.fn 31) [.ptr bx 0 0, .int .i64 k, .int .u64 x] h = .ok (.bool false) h := by
  refine callF_run (fn := d31) rfl rfl ?_
  by_cases h1 : 64 ≤ es.length
  · have e1 : ((64 : Int) ≤ es.length) = True := by simp; omega
    simp [d31, Env.get_put, loadD_row hs, ho.len, e1]
  · have e1 : ((64 : Int) ≤ es.length) = False := by simp; omega
    by_cases h2 : k < 0
    · simp [d31, Env.get_put, loadD_row hs, ho.len, e1, h2]
    · have h3 : (es.length : Int) ≤ k := by omega
      simp [d31, Env.get_put, loadD_row hs, ho.len, e1, h2, h3]

theorem rfilter_spec {l : AV} {es : List (List AV)} {k : Nat} {m a o x : Int} {v1 v2 : AV} (hs : RefAt h bx l) (ho : OpenS 5 h l es)
    (h1 : es.length < 64) (hk : k < es.length) (he : es[k]? = some [.int .i64 m, .int .i64 a, .int .i64 o, v1, v2]) (hbx : bx < h.next) (hbl : ∀ b, l.blk = some b → b < h.next ∧ b ≠ bx) :
    ∃ h' l' st, callF tabT.get? L (d + 1) (.fn 31) [.ptr bx 0 0, .int .i64 k, .int .u64 x] h = .ok (.bool true) h' ∧ RefAt h' bx l' ∧
      OpenS 5 h' l' (es ++ [[.int .i64 m, .int .i64 a, .int .i64 o, .nils, st]]) ∧ OpenS 1 h' st (encW [x]) ∧
      Touch h h' (bx :: l.blk.toList) ∧ (∃ b, st.blk = some b ∧ h.next ≤ b ∧ b < h'.next ∧ l'.blk ≠ some b) ∧ (l'.blk = l.blk ∨ ∃ b, l'.blk = some b ∧ h.next ≤ b ∧ b < h'.next) := by
  have e1 : ((64 : Int) ≤ es.length) = False := by simp; omega
  have e2 : ((es.length : Int) ≤ k) = False := by simp; omega
  have e3 : ((k : Int) < 0) = False := by simp
  obtain ⟨b0, sp, rfl, hb0⟩ : ∃ b sp, l = .slice 5 b 0 es.length none ∧ h.get b = some (.cells 5 true (.list (es ++ sp))) := by
    rcases ho with ⟨_, rfl⟩ | hh
    · simp at hk
    · exact hh
  have hbl0 := hbl b0 rfl
  have hes : (es ++ sp)[k]? = some [.int .i64 m, .int .i64 a, .int .i64 o, v1, v2] := by rw [List.getElem?_append_left hk]; exact he
  have lk0 := loadD_at (k := none) (off := 0) hb0 hes
  have lk1 := loadD_at (k := none) (off := 1) hb0 hes
  have lk2 := loadD_at (k := none) (off := 2) hb0 hes
  have hl := loadD_row (k := none) (off := 1) hs
  have hl0 := loadD_row (k := none) (off := 0) hs
  simp at lk0 lk1 lk2 hl hl0
  let zr : List AV := [.int .i64 0, .int .i64 0, .int .i64 0, .nils, .nils]
  let f0 : List AV := [.int .i64 m, .int .i64 a, .int .i64 o, .nils, .nils]
  let g1 := h.new (.cells 5 false (.list [zr]))
  let g2 := g1.set h.next (.cells 5 false (.list [f0]))
  let g3 := g2.new (.cells 1 false (.list [[.int .u64 x]]))
  let g4 := g3.new (.cells 1 true (.list [[.int .u64 x]]))
  let st : AV := .slice 1 (h.next + 1 + 1) 0 1 none
  let f1 : List AV := [.int .i64 m, .int .i64 a, .int .i64 o, .nils, st]
  let g5 := g4.set h.next (.cells 5 false (.list [f1]))
  have hst1 : storeD g1 5 (.ptr h.next 0 0) (.agg f0) = .ok (.tup []) g2 := storeD_row (y := zr) (by simp only [g1]; rw [Heap.get_new, if_pos rfl]) rfl
  have hf2 : g2.get h.next = some (.cells 5 false (.list [f0])) := by simp [g2, Heap.get_set]
  have hf4 : g4.get h.next = some (.cells 5 false (.list [f0])) := by
    simp [g4, g3, Heap.get_new, g2, g1, Heap.get_set]
    omega
  have hst2 : storeD g4 1 (.ptr h.next 0 4) st = .ok (.tup []) g5 := storeD_row (y := f0) (y' := f1) hf4 rfl
  have hf5 : g5.get h.next = some (.cells 5 false (.list [f1])) := by simp [g5, Heap.get_set]
  have lf2 := loadD_row (k := none) (off := 4) hf2
  have lf5 := loadD_row (k := some 5) (off := 0) hf5
  simp [readC, f0, f1] at lf2 lf5
  have hn5 : g5.next = h.next + 3 := rfl
  have t5 : Touch h g5 [] := (((Touch.new (bs := [])).fresh (Nat.le_refl _)).news.news).fresh (Nat.le_refl _)
  have hs5 := hs.touch t5 hbx (by simp)
  have hl5 := loadD_row (k := none) (off := 1) hs5
  simp at hl5
  let g6 := g5.new (.cells 5 false (.list [f1]))
  have hb6 : g6.get b0 = some (.cells 5 true (.list (es ++ sp))) := by
    simp only [g6]
    rw [Heap.get_new, if_neg (by omega), t5.2 _ hbl0.1 (by simp)]; exact hb0
  have ho6 : OpenS 5 g6 (.slice 5 b0 0 es.length none) es := .inr ⟨b0, sp, rfl, hb6⟩
  obtain ⟨v', h3', a1, a2, a3, a4, a5⟩ := append_open (bytes := 72) (zs := zr) (new := [f1]) ho6 rfl (by simp [zr]) (by simp [okElems, f1, zr, AV.one, st]) (by simp) (by
    rw [roomy, nble, decide_eq_true_eq]; simp; omega)
  have hn6 : g6.next = h.next + 4 := rfl
  have h3n : h.next + 4 ≤ h3'.next := by have := a3.1; omega
  have hnl : ∀ y, y < h.next + 3 → y ≠ b0 → h3'.get y = g5.get y := fun y hy hn => by
    rw [a3.2 y (by omega) (by simpa [AV.blk] using hn)]
    simp only [g6]
    rw [Heap.get_new, if_neg (by omega)]
  have hs6 : RefAt h3' bx (.slice 5 b0 0 es.length none) := by
    unfold RefAt
    rw [hnl _ (by omega) (by omega)]; exact hs5
  have hst3 := storeD_row (n := 1) (off := 1) (x := v') (y' := [.int .i64 64, v']) hs6 (by simp [writeC, a2.cells, a2.one, nble])
  have hvblk : v'.blk = some b0 ∨ (v'.blk = some (h.next + 4) ∧ h3'.next = h.next + 5) := by rw [hn6] at a4; exact a4
  have hnv : ∀ b, v'.blk = some b → b ≠ bx ∧ b ≠ h.next + 2 := fun b hb => by
    rcases hvblk with hh | ⟨hh, _⟩ <;> have := Option.some.inj (hh.symm.trans hb) <;> omega
  have hst5 : g5.get (h.next + 1 + 1) = some (.cells 1 true (.list (encW [x] ++ []))) := by
    simp only [g5]
    rw [Heap.get_set, if_neg (by omega)]
    simp [g4, g3, g2, g1, Heap.get_new, encW]
  have ha1 : appendD [.int .u64 0] 8 g3 .nils [[.int .u64 x]] = .ok st g4 := by
    have hr : roomy 1 8 = true := rfl
    have hn3 : g3.next = h.next + 1 + 1 := rfl
    simp [appendD, okElems, AV.one, nblt, hr, newOpen, st, g4, hn3]
  refine ⟨h3'.set bx (.cells 2 false (.list [[.int .i64 64, v']])), v', st, callF_run (fn := d31) rfl rfl ?_, .set, ?_, ?_, ?_, ⟨h.next + 2, rfl, by omega, by simp; omega, fun hh => (hnv _ hh).2 rfl⟩, ?_⟩
  · simp only [g6, f1, zr, st] at a1
    simp only [g1, zr, f0] at hst1
    simp only [st] at hst2 ha1
    simp only [g3] at ha1
    simp only [st] at lf5
    have hn2 : g2.next = h.next + 1 := rfl
    simp [d31, Env.get_put, hl, hl0, ho.len, lenD, e1, e2, e3, lk0, lk1, lk2, hk, fillC, AV.cells, AV.one, nble, nblt, newOf, fillS, hst1, lf2, elemsOf, Heap.get_new, Ct.sub, ha1, hn2, hst2, lf5, hl5, a1, hst3]
  · exact a2.touch (Touch.set (bs := [bx]) (by simp)) fun b hb => by
      have := (hnv b hb).1
      refine ⟨?_, by simpa using this⟩
      rcases hvblk with hh | ⟨hh, hh2⟩
      · have := Option.some.inj (hh.symm.trans hb); omega
      · have := Option.some.inj (hh.symm.trans hb); omega
  · refine .inr ⟨h.next + 1 + 1, [], rfl, ?_⟩
    rw [Heap.get_set, if_neg (by omega), hnl _ (by omega) (by omega)]
    exact hst5
  · refine ⟨by simp; omega, fun y hy hn => ?_⟩
    simp [AV.blk] at hn
    rw [Heap.get_set, if_neg hn.1, hnl y (by omega) (by omega)]
    exact t5.2 y hy (by simp)
  · rcases hvblk with hh | ⟨hh, hh2⟩
    · exact .inl hh
    · exact .inr ⟨_, hh, by omega, by simp; omega⟩
end
end Go.D.FB
