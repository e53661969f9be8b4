/-
  The law FramesBack at the abstract evaluator: its functions, stepped through once each.
-/
import Derived.Test.YtgdenjkiblpnpaaGreatFX1
set_option linter.unusedSimpArgs false
set_option linter.unusedVariables false
namespace Go.D.FB
open Go.D
set_option maxRecDepth 100000
section
variable {d L : Nat} {h : Heap} {bx : Nat}

theorem rleave_no {l : AV} (hs : RefAt h bx l) (hl : lenD h .sl l = some 0) : callF tabT.get? L (d + 1) (.fn 32) [.ptr bx 0 0] h = .ok (.bool false) h := by
  refine callF_run (fn := d32) rfl rfl ?_
  simp [d32, Env.get_put, loadD_row hs, hl]

theorem rleave_spec {l : AV} {es : List (List AV)} {n : Nat} (hs : RefAt h bx l) (ho : OpenS 5 h l es) (hn : es.length = n + 1) (hn2 : n < 64) (hok : okElems 5 es = true) (hbx : bx < h.next) :
    ∃ h' l', callF tabT.get? L (d + 1) (.fn 32) [.ptr bx 0 0] h = .ok (.bool true) h' ∧ RefAt h' bx l' ∧ OpenS 5 h' l' (es.take n) ∧ Touch h h' [bx] ∧ (l'.blk = none ∨ ∃ b, l'.blk = some b ∧ h.next ≤ b ∧ b < h'.next) := by
  have e1 : ((n : Int) + 1 = 0) = False := by simp; omega
  have e2 : IntKind.i64.wrap (n : Int) = n := wrap_i64 (by omega) (by omega)
  let zr : List AV := [.int .i64 0, .int .i64 0, .int .i64 0, .nils, .nils]
  have hlen := ho.len
  rw [hn] at hlen
  obtain ⟨v, s1, s2⟩ := sliceN_to (n := n) ho (by omega)
  obtain ⟨l', h2, a1, a2, a3, a4⟩ := append_any (bytes := 72) (zs := zr) (v := .nils) (es := []) (new := es.take n) (h := h) (.inl ⟨rfl, rfl⟩) rfl (by simp [zr]) (okElems_sub hok fun x hx => List.mem_of_mem_take hx) (by
    rw [roomy, nble, decide_eq_true_eq]; simp; omega)
  have t2 : Touch h h2 [] := a3
  have hs2 := hs.touch t2 hbx (by simp)
  have hst := storeD_row (n := 1) (off := 1) (x := l') (y' := [.int .i64 64, l']) hs2 (by simp [writeC, a2.cells, a2.one, nble])
  refine ⟨h2.set bx (.cells 2 false (.list [[.int .i64 64, l']])), l', callF_run (fn := d32) rfl rfl ?_, .set, ?_, (t2.mono (by simp)).sets (by simp), ?_⟩
  · simp only [zr] at a1
    simp [d32, Env.get_put, loadD_row hs, hlen, e1, e2, s1, s2, a1, hst]
  · have : OpenS 5 h2 l' (es.take n) := a2
    refine this.touch (Touch.set (bs := [bx]) (by simp)) fun b hb => ?_
    rcases a4 with hh | ⟨hh, hh2⟩
    · rw [hh] at hb; cases hb
    · have := Option.some.inj (hh.symm.trans hb); simp; omega
  · rcases a4 with hh | ⟨hh, hh2⟩
    · exact .inl hh
    · exact .inr ⟨_, hh, by omega, by simp; omega⟩

theorem rpush_none {l v : AV} (hs : RefAt h bx l) (hl : lenD h .sl l = some 0) : callF tabT.get? L (d + 1) (.fn 11) [.ptr bx 0 0, v] h = .ok (.bool false) h := by
  refine callF_run (fn := d11) rfl rfl ?_
  have e2 : IntKind.i64.wrap (-1 : Int) = -1 := by decide
  simp [d11, Env.get_put, loadD_row hs, hl, e2]

theorem rpush_no {l v st : AV} {es : List (List AV)} {n : Nat} {ws ss : List Int} {m a o v1 : AV} (hs : RefAt h bx l) (ho : OpenS 5 h l es) (hn : es.length = n + 1) (hn2 : n < 64)
    (he : es[n]? = some [m, a, o, v1, st]) (hst : OpenS 1 h st (encW ss)) (hv : ReadsW h v ws) (hss : ss.length ≤ 96) (hlt : 96 < ss.length + ws.length) :
    callF tabT.get? L (d + 1) (.fn 11) [.ptr bx 0 0, v] h = .ok (.bool false) h := by
  refine callF_run (fn := d11) rfl rfl ?_
  have hlen := ho.len
  rw [hn] at hlen
  obtain ⟨b0, sp, rfl, hb0⟩ : ∃ b sp, l = .slice 5 b 0 es.length none ∧ h.get b = some (.cells 5 true (.list (es ++ sp))) := by
    rcases ho with ⟨_, rfl⟩ | hh
    · simp at hn
    · exact hh
  have hes : (es ++ sp)[n]? = some [m, a, o, v1, st] := by rw [List.getElem?_append_left (by omega)]; exact he
  have l4 := loadD_at (k := none) (off := 4) hb0 hes
  simp at l4
  have e1 : IntKind.i64.wrap (n : Int) = n := wrap_i64 (by omega) (by omega)
  have e2 : ((n : Int) < 0) = False := by simp
  have e3 : n < es.length := by omega
  have e4 : IntKind.i64.wrap ((96 : Int) - ss.length) = 96 - ss.length := wrap_i64 (by omega) (by omega)
  have e5 : ((96 : Int) - ss.length < ws.length) = True := by simp; omega
  have hsl := hst.len
  simp at hsl
  simp [d11, Env.get_put, loadD_row hs, hlen, e1, e2, e3, l4, hsl, hv.len, e4, e5]

theorem rpush_spec {l v st : AV} {es : List (List AV)} {n : Nat} {ws ss : List Int} {m a o v1 : AV} (hs : RefAt h bx l) (ho : OpenS 5 h l es) (hn : es.length = n + 1) (hn2 : n < 64)
    (he : es[n]? = some [m, a, o, v1, st]) (hst : OpenS 1 h st (encW ss)) (hv : ReadsW h v ws) (hss : ss.length ≤ 96) (hlt : ss.length + ws.length ≤ 96) (hbx : bx < h.next) (hlb : ∀ b, l.blk = some b → b < h.next ∧ b ≠ bx)
    (hsb : ∀ b, st.blk = some b → b < h.next ∧ b ≠ bx ∧ l.blk ≠ some b) :
    ∃ h' st', callF tabT.get? L (d + 1) (.fn 11) [.ptr bx 0 0, v] h = .ok (.bool true) h' ∧ RefAt h' bx l ∧ OpenS 5 h' l (es.set n [m, a, o, v1, st']) ∧ OpenS 1 h' st' (encW (ss ++ ws)) ∧
      Touch h h' (st.blk.toList ++ l.blk.toList) ∧ (st'.blk = st.blk ∨ ∃ b, st'.blk = some b ∧ h.next ≤ b ∧ b < h'.next) := by
  have hlen := ho.len
  rw [hn] at hlen
  obtain ⟨b0, sp, rfl, hb0⟩ : ∃ b sp, l = .slice 5 b 0 es.length none ∧ h.get b = some (.cells 5 true (.list (es ++ sp))) := by
    rcases ho with ⟨_, rfl⟩ | hh
    · simp at hn
    · exact hh
  have hlb0 := hlb b0 rfl
  have hes : (es ++ sp)[n]? = some [m, a, o, v1, st] := by rw [List.getElem?_append_left (by omega)]; exact he
  have l4 := loadD_at (k := none) (off := 4) hb0 hes
  simp at l4
  have e1 : IntKind.i64.wrap (n : Int) = n := wrap_i64 (by omega) (by omega)
  have e2 : ((n : Int) < 0) = False := by simp
  have e3 : n < es.length := by omega
  have e4 : IntKind.i64.wrap ((96 : Int) - ss.length) = 96 - ss.length := wrap_i64 (by omega) (by omega)
  have e5 : ((96 : Int) - ss.length < ws.length) = False := by simp; omega
  have hsl := hst.len
  simp at hsl
  obtain ⟨st', h2, a1, a2, a3, a4⟩ := append_any (bytes := 8) (zs := [.int .u64 0]) (new := encW ws) hst rfl (by simp) (encW_ok ws) (by
    rw [roomy, nble, decide_eq_true_eq]; simp; omega)
  have hxs : bx ∉ st.blk.toList := by
    intro hh
    have := hsb bx (by simpa using hh)
    exact this.2.1 rfl
  have hbs : b0 ∉ st.blk.toList := by
    intro hh
    have := hsb b0 (by simpa using hh)
    exact this.2.2 rfl
  have hs2 := hs.touch a3 hbx hxs
  have hb2 : h2.get b0 = some (.cells 5 true (.list (es ++ sp))) := by rw [a3.2 _ hlb0.1 hbs]; exact hb0
  have hld := loadD_row (k := none) (off := 1) hs2
  simp at hld
  have hst2 := storeD_one (off := 4) (x := st') hb2 (i := n) (y := [m, a, o, v1, st]) (by simp only [Ct.get?]; exact hes) a2.cells a2.one (by simp)
  simp [Ct.set] at hst2
  have hset : (es ++ sp).set n [m, a, o, v1, st'] = es.set n [m, a, o, v1, st'] ++ sp := by rw [List.set_append_left _ _ e3]
  rw [hset] at hst2
  refine ⟨h2.set b0 (.cells 5 true (.list (es.set n [m, a, o, v1, st'] ++ sp))), st', callF_run (fn := d11) rfl rfl ?_, ?_, ?_, ?_, ?_, ?_⟩
  · simp [d11, Env.get_put, loadD_row hs, hlen, e1, e2, e3, l4, hsl, hv.len, hv.elems, e4, e5, a1, hld, hst2]
  · exact hs2.touch (Touch.set (bs := [b0]) (by simp)) (by have := a3.1; omega) (by simp; omega)
  · exact .inr ⟨b0, sp, by simp, by simp [Heap.get_set]⟩
  · have : OpenS 1 h2 st' (encW (ss ++ ws)) := by simpa using a2
    refine this.touch (Touch.set (bs := [b0]) (by simp)) fun b hb => ?_
    rcases a4 with hh | ⟨hh, hh2⟩
    · rw [hh] at hb
      have := hsb b hb
      refine ⟨by have := a3.1; omega, ?_⟩
      simp
      intro hbb
      exact this.2.2 (by rw [hbb]; rfl)
    · have := Option.some.inj (hh.symm.trans hb); simp; omega
  · exact (a3.mono (fun x hx => by simp at hx ⊢; exact .inl hx)).sets (by simp [AV.blk])
  · rcases a4 with hh | ⟨hh, hh2⟩
    · exact .inl hh
    · exact .inr ⟨_, hh, by omega, by simp; omega⟩

theorem rpop_no {l : AV} {es : List (List AV)} {k : Int} (hs : RefAt h bx l) (ho : OpenS 5 h l es) (hc : es.length = 0 ∨ k < 0) (hn2 : es.length < 65) :
    callF tabT.get? L (d + 1) (.fn 14) [.ptr bx 0 0, .int .i64 k] h = .ok .nils h := by
  refine callF_run (fn := d14) rfl rfl ?_
  by_cases h1 : es.length = 0
  · have e1 : IntKind.i64.wrap (-1 : Int) = -1 := by decide
    simp [d14, Env.get_put, loadD_row hs, ho.len, h1, e1]
  · have e1 : IntKind.i64.wrap ((es.length : Int) - 1) = es.length - 1 := wrap_i64 (by omega) (by omega)
    have e2 : ((es.length : Int) - 1 < 0) = False := by simp; omega
    have h2 : k < 0 := by omega
    simp [d14, Env.get_put, loadD_row hs, ho.len, e1, e2, h2]

theorem rpop_big {l st : AV} {es : List (List AV)} {n : Nat} {ss : List Int} {m a o v1 : AV} {k : Int} (hs : RefAt h bx l) (ho : OpenS 5 h l es) (hn : es.length = n + 1) (hn2 : n < 64)
    (he : es[n]? = some [m, a, o, v1, st]) (hst : OpenS 1 h st (encW ss)) (hk : ss.length < k) :
    callF tabT.get? L (d + 1) (.fn 14) [.ptr bx 0 0, .int .i64 k] h = .ok .nils h := by
  refine callF_run (fn := d14) rfl rfl ?_
  have hlen := ho.len
  rw [hn] at hlen
  obtain ⟨b0, sp, rfl, hb0⟩ : ∃ b sp, l = .slice 5 b 0 es.length none ∧ h.get b = some (.cells 5 true (.list (es ++ sp))) := by
    rcases ho with ⟨_, rfl⟩ | hh
    · simp at hn
    · exact hh
  have hes : (es ++ sp)[n]? = some [m, a, o, v1, st] := by rw [List.getElem?_append_left (by omega)]; exact he
  have l4 := loadD_at (k := none) (off := 4) hb0 hes
  simp at l4
  have e1 : IntKind.i64.wrap (n : Int) = n := wrap_i64 (by omega) (by omega)
  have e3 : n < es.length := by omega
  have e2 : ((n : Int) < 0) = False := by simp
  have e5 : (k < 0) = False := by simp; omega
  have hsl := hst.len
  simp at hsl
  simp [d14, Env.get_put, loadD_row hs, hlen, e1, e2, e3, l4, hsl, e5, hk]

theorem rpop_spec {l st : AV} {es : List (List AV)} {n k : Nat} {ss : List Int} {m a o v1 : AV} (hs : RefAt h bx l) (ho : OpenS 5 h l es) (hn : es.length = n + 1) (hn2 : n < 64)
    (he : es[n]? = some [m, a, o, v1, st]) (hst : OpenS 1 h st (encW ss)) (hk : k ≤ ss.length) (hss : ss.length < 1000) (hbx : bx < h.next) (hlb : ∀ b, l.blk = some b → b < h.next ∧ b ≠ bx) (hsb : ∀ b, st.blk = some b → b < h.next) :
    ∃ h' st' out, callF tabT.get? L (d + 1) (.fn 14) [.ptr bx 0 0, .int .i64 k] h = .ok out h' ∧ RefAt h' bx l ∧ OpenS 5 h' l (es.set n [m, a, o, v1, st']) ∧ OpenS 1 h' st' (encW (ss.take (ss.length - k))) ∧
      OpenS 1 h' out (encW (ss.drop (ss.length - k))) ∧ Touch h h' l.blk.toList ∧ (st'.blk = none ∨ ∃ b, st'.blk = some b ∧ h.next ≤ b ∧ b < h'.next) := by
  have hlen := ho.len
  rw [hn] at hlen
  obtain ⟨b0, sp, rfl, hb0⟩ : ∃ b sp, l = .slice 5 b 0 es.length none ∧ h.get b = some (.cells 5 true (.list (es ++ sp))) := by
    rcases ho with ⟨_, rfl⟩ | hh
    · simp at hn
    · exact hh
  have hlb0 := hlb b0 rfl
  have hes : (es ++ sp)[n]? = some [m, a, o, v1, st] := by rw [List.getElem?_append_left (by omega)]; exact he
  have l4 := loadD_at (k := none) (off := 4) hb0 hes
  simp at l4
  have e1 : IntKind.i64.wrap (n : Int) = n := wrap_i64 (by omega) (by omega)
  have e3 : n < es.length := by omega
  have e5 : ((k : Int) < 0) = False := by simp
  have e6 : ((ss.length : Int) < k) = False := by simp; omega
  have e7 : IntKind.i64.wrap ((ss.length : Int) - k) = ((ss.length - k : Nat) : Int) := by rw [wrap_i64 (by omega) (by omega)]; omega
  have hsl := hst.len
  simp at hsl
  have hn3 : ((n : Int) < 0) = False := by simp
  suffices hh : ∃ h' st' out, finishF d14.results (evd (callF tabT.get? L d) L false d14.body (startEnv [.ptr bx 0 0, .int .i64 k]) h) = .ok out h' ∧ RefAt h' bx (.slice 5 b0 0 es.length none) ∧ OpenS 5 h' (.slice 5 b0 0 es.length none) (es.set n [m, a, o, v1, st']) ∧
      OpenS 1 h' st' (encW (ss.take (ss.length - k))) ∧ OpenS 1 h' out (encW (ss.drop (ss.length - k))) ∧ Touch h h' [b0] ∧ (st'.blk = none ∨ ∃ b, st'.blk = some b ∧ h.next ≤ b ∧ b < h'.next) by
    obtain ⟨h', st', out, q1, q2⟩ := hh
    exact ⟨h', st', out, callF_run (fn := d14) rfl rfl q1, q2⟩
  obtain ⟨w1, s1, s2⟩ := sliceN_from (n := ss.length - k) hst (by simp)
  have s2' : elemsOf h w1 = some (encW (ss.drop (ss.length - k))) := by simpa [encW] using s2
  obtain ⟨out, h2, a1, a2, a3, a4⟩ := append_any (bytes := 8) (zs := [.int .u64 0]) (v := .nils) (es := []) (h := h) (new := encW (ss.drop (ss.length - k))) (.inl ⟨rfl, rfl⟩) rfl (by simp) (encW_ok _) (by
    rw [roomy, nble, decide_eq_true_eq]; simp; omega)
  have t2 : Touch h h2 [] := a3
  obtain ⟨st', h3, c1, c2, c3, c4⟩ := append_any (bytes := 8) (zs := [.int .u64 0]) (v := .nils) (es := []) (h := h2) (new := encW (ss.take (ss.length - k))) (.inl ⟨rfl, rfl⟩) rfl (by simp) (encW_ok _) (by
    rw [roomy, nble, decide_eq_true_eq]; simp; omega)
  have t3 : Touch h2 h3 [] := c3
  have t13 := t2.trans t3
  have hs2 := hs.touch t2 hbx (by simp)
  have hs3 := hs.touch t13 hbx (by simp)
  have hb2 : h2.get b0 = some (.cells 5 true (.list (es ++ sp))) := by rw [t2.2 _ hlb0.1 (by simp)]; exact hb0
  have hb3 : h3.get b0 = some (.cells 5 true (.list (es ++ sp))) := by rw [t13.2 _ hlb0.1 (by simp)]; exact hb0
  have ho2 : OpenS 1 h2 st (encW ss) := hst.touch t2 fun b hb => ⟨hsb b hb, by simp⟩
  obtain ⟨w2, s3, s4⟩ := sliceN_to (n := ss.length - k) ho2 (by simp)
  have s4' : elemsOf h2 w2 = some (encW (ss.take (ss.length - k))) := by simpa [encW] using s4
  have l42 := loadD_at (k := none) (off := 4) hb2 (i := n) (y := [m, a, o, v1, st]) (by simp only [Ct.get?]; exact hes)
  simp at l42
  have hl2 := loadD_row (k := none) (off := 1) hs2
  have hl3 := loadD_row (k := none) (off := 1) hs3
  simp at hl2 hl3
  have hst2 := storeD_one (off := 4) (x := st') hb3 (i := n) (y := [m, a, o, v1, st]) (by simp only [Ct.get?]; exact hes) c2.cells c2.one (by simp)
  simp [Ct.set] at hst2
  have hset : (es ++ sp).set n [m, a, o, v1, st'] = es.set n [m, a, o, v1, st'] ++ sp := by rw [List.set_append_left _ _ e3]
  rw [hset] at hst2
  have hb0n : b0 ≠ h.next ∧ b0 ≠ h2.next := by have := t2.1; omega
  have hfin : ∀ {w : AV} {ws : List Int}, OpenS 1 h3 w (encW ws) → (w.blk = none ∨ ∃ b, w.blk = some b ∧ h.next ≤ b ∧ b < h3.next) → OpenS 1 (h3.set b0 (.cells 5 true (.list (es.set n [m, a, o, v1, st'] ++ sp)))) w (encW ws) := fun hw hb =>
    hw.touch (Touch.set (bs := [b0]) (by simp)) fun b hb2 => by
      rcases hb with hh | ⟨b', hh, h1, h2⟩
      · rw [hh] at hb2; cases hb2
      · have := Option.some.inj (hh.symm.trans hb2)
        subst this
        simp; omega
  have hst3 : st'.blk = none ∨ ∃ b, st'.blk = some b ∧ h.next ≤ b ∧ b < h3.next := by
    rcases c4 with hh | ⟨hh, hh2⟩
    · exact .inl hh
    · exact .inr ⟨_, hh, t2.1, by omega⟩
  have hout3 : out.blk = none ∨ ∃ b, out.blk = some b ∧ h.next ≤ b ∧ b < h2.next := by
    rcases a4 with hh | ⟨hh, hh2⟩
    · exact .inl hh
    · exact .inr ⟨_, hh, by omega, by omega⟩
  have ho3 : OpenS 1 h3 out (encW (ss.drop (ss.length - k))) := by
    have : OpenS 1 h2 out (encW (ss.drop (ss.length - k))) := a2
    refine this.touch t3 fun b hb => ?_
    rcases hout3 with hh | ⟨b', hh, h1, h2⟩
    · rw [hh] at hb; cases hb
    · have := Option.some.inj (hh.symm.trans hb)
      subst this
      simp; omega
  have hc2 : OpenS 1 h3 st' (encW (ss.take (ss.length - k))) := c2
  refine ⟨h3.set b0 (.cells 5 true (.list (es.set n [m, a, o, v1, st'] ++ sp))), st', out, ?_, ?_, ?_, ?_, ?_, ?_, ?_⟩
  · simp [d14, Env.get_put, loadD_row hs, hlen, e1, e3, l4, hsl, e5, e6, e7, hn3, s1, s2', a1, hl2, l42, s3, s4', c1, hl3, hst2]
  · exact hs3.touch (Touch.set (bs := [b0]) (by simp)) (by have := t13.1; omega) (by simp; omega)
  · exact .inr ⟨b0, sp, by simp, by simp [Heap.get_set]⟩
  · exact hfin hc2 hst3
  · refine hfin ho3 ?_
    rcases hout3 with hh | ⟨b', hh, h1, h2⟩
    · exact .inl hh
    · exact .inr ⟨b', hh, h1, by have := t3.1; omega⟩
  · exact (t13.mono (by simp)).sets (by simp)
  · rcases hst3 with hh | ⟨b', hh, h1, h2⟩
    · exact .inl hh
    · exact .inr ⟨b', hh, h1, by simpa using h2⟩
end
end Go.D.FB
namespace Go.D.FB
open Go.D
set_option maxRecDepth 100000
section
variable {d L : Nat} {h : Heap} {bx : Nat}

theorem rclear_no {l : AV} {n : Nat} {k : Int} (hs : RefAt h bx l) (hl : lenD h .sl l = some n) (hk : k < 0 ∨ n ≤ k) : callF tabT.get? L (d + 1) (.fn 34) [.ptr bx 0 0, .int .i64 k] h = .ok (.tup []) h := by
  refine callF_run (fn := d34) rfl rfl ?_
  by_cases h1 : 0 ≤ k
  · have h2 : ¬ k < n := by omega
    simp [d34, Env.get_put, loadD_row hs, hl, h1, h2]
  · simp [d34, Env.get_put, h1]
theorem rclear_spec {l : AV} {es : List (List AV)} {k : Nat} {m a o v s : AV} (hs : RefAt h bx l) (ho : OpenS 5 h l es) (hk : k < es.length) (he : es[k]? = some [m, a, o, v, s]) (hbx : bx < h.next) (hlb : l.blk ≠ some bx) :
    ∃ h', callF tabT.get? L (d + 1) (.fn 34) [.ptr bx 0 0, .int .i64 k] h = .ok (.tup []) h' ∧ RefAt h' bx l ∧ OpenS 5 h' l (es.set k [m, a, o, v, .nils]) ∧ Touch h h' l.blk.toList ∧ h'.next = h.next := by
  obtain ⟨b0, sp, rfl, hb0⟩ : ∃ b sp, l = .slice 5 b 0 es.length none ∧ h.get b = some (.cells 5 true (.list (es ++ sp))) := by
    rcases ho with ⟨_, rfl⟩ | hh
    · simp at hk
    · exact hh
  have hes : (es ++ sp)[k]? = some [m, a, o, v, s] := by rw [List.getElem?_append_left hk]; exact he
  have hst := storeD_at (n := 1) (off := 4) (x := .nils) (y' := [m, a, o, v, .nils]) hb0 (i := k) (y := [m, a, o, v, s]) (by simp only [Ct.get?]; exact hes) rfl
  simp only [Ct.set] at hst
  rw [List.set_append_left _ _ hk] at hst
  have e1 : ((k : Int) < es.length) = True := by simp; omega
  have e0 : ((0 : Int) ≤ k) = True := by simp
  refine ⟨_, callF_run (fn := d34) rfl rfl ?_, ?_, ?_, Touch.set (b := b0) (o := .cells 5 true (.list (es.set k [m, a, o, v, .nils] ++ sp))) (by simp [AV.blk]), rfl⟩
  · simp [d34, Env.get_put, loadD_row hs, lenD, e0, e1, hk, hst]
  · exact hs.touch (Touch.set (bs := [b0]) (by simp)) hbx (by simp; intro hh; exact hlb (by rw [hh]; rfl))
  · exact .inr ⟨b0, sp, by simp, by simp [Heap.get_set]⟩
theorem rmove_no {l : AV} {n : Nat} {k x : Int} (hs : RefAt h bx l) (hl : lenD h .sl l = some n) (hk : k < 0 ∨ n ≤ k) : callF tabT.get? L (d + 1) (.fn 36) [.ptr bx 0 0, .int .i64 k, .int .i64 x] h = .ok (.tup []) h := by
  refine callF_run (fn := d36) rfl rfl ?_
  by_cases h1 : 0 ≤ k
  · have h2 : ¬ k < n := by omega
    simp [d36, Env.get_put, loadD_row hs, hl, h1, h2]
  · simp [d36, Env.get_put, h1]
theorem rmove_spec {l : AV} {es : List (List AV)} {k : Nat} {m a o v s : AV} {x : Int} (hs : RefAt h bx l) (ho : OpenS 5 h l es) (hk : k < es.length) (he : es[k]? = some [m, a, o, v, s]) (hbx : bx < h.next) (hlb : l.blk ≠ some bx) :
    ∃ h', callF tabT.get? L (d + 1) (.fn 36) [.ptr bx 0 0, .int .i64 k, .int .i64 x] h = .ok (.tup []) h' ∧ RefAt h' bx l ∧ OpenS 5 h' l (es.set k [m, .int .i64 x, o, v, s]) ∧ Touch h h' l.blk.toList ∧ h'.next = h.next := by
  obtain ⟨b0, sp, rfl, hb0⟩ : ∃ b sp, l = .slice 5 b 0 es.length none ∧ h.get b = some (.cells 5 true (.list (es ++ sp))) := by
    rcases ho with ⟨_, rfl⟩ | hh
    · simp at hk
    · exact hh
  have hes : (es ++ sp)[k]? = some [m, a, o, v, s] := by rw [List.getElem?_append_left hk]; exact he
  have hst := storeD_at (n := 1) (off := 1) (x := .int .i64 x) (y' := [m, .int .i64 x, o, v, s]) hb0 (i := k) (y := [m, a, o, v, s]) (by simp only [Ct.get?]; exact hes) rfl
  simp only [Ct.set] at hst
  rw [List.set_append_left _ _ hk] at hst
  have e1 : ((k : Int) < es.length) = True := by simp; omega
  have e0 : ((0 : Int) ≤ k) = True := by simp
  refine ⟨_, callF_run (fn := d36) rfl rfl ?_, ?_, ?_, Touch.set (b := b0) (o := .cells 5 true (.list (es.set k [m, .int .i64 x, o, v, s] ++ sp))) (by simp [AV.blk]), rfl⟩
  · simp [d36, Env.get_put, loadD_row hs, lenD, e0, e1, hk, hst]
  · exact hs.touch (Touch.set (bs := [b0]) (by simp)) hbx (by simp; intro hh; exact hlb (by rw [hh]; rfl))
  · exact .inr ⟨b0, sp, by simp, by simp [Heap.get_set]⟩

theorem swords_spec {a b : AV} {ws : List Int} (ha : ReadsW h a ws) (hb : ReadsW h b ws) (hw : ws.length < 1000) (hL : 1000 < L) : callF tabT.get? L (d + 1) (.fn 12) [a, b] h = .ok (.bool true) h := by
  refine callF_run (fn := d12) rfl rfl ?_
  simp [d12, Env.get_put, ha.len, hb.len]
  generalize hrr : rounds _ _ _ _ = o
  obtain ⟨e', h', rfl, j1, j2⟩ : ∃ e' h', o = .go (.exit 0) e' h' ∧ noDs e' = true ∧ h' = h := by
    refine loop_exit (id := 0) hrr ws.length (fun k e g => noDs e = true ∧ e.get 0 = a ∧ e.get 1 = b ∧ e.get 5 = .int .i64 k ∧ g = h) (by omega) ?_ ?_ ?_
    · simp [Env.get_put]
    · rintro k hk e g ⟨i1, i2, i3, i4, rfl⟩
      obtain ⟨p, w, q1, q2, q3⟩ := ha.at_ k hk
      obtain ⟨p', w', c1, c2, c3⟩ := hb.at_ k hk
      have : w' = w := Option.some.inj (c2.symm.trans q2)
      subst this
      have e2 : ((k : Int) < ws.length) = True := by simp; omega
      have e5 : IntKind.i64.wrap ((k : Int) + 1) = (k : Int) + 1 := wrap_i64 (by omega) (by omega)
      apply ex2
      · simp [Env.get_put, i2, i3, i4, ha.len, e2, e5, q1, q3, c1, c3]
        exact ⟨rfl, rfl⟩
      · simp [Env.get_put, i1, i2, i3]
    · rintro e g ⟨i1, i2, i3, i4, rfl⟩
      apply ex2
      · simp [Env.get_put, i2, i4, ha.len]
        exact ⟨rfl, rfl⟩
      · simp [i1]
  subst j2
  simp [j1, Env.get_put]
end
end Go.D.FB
namespace Go.D.FB
open Go.D
set_option maxRecDepth 100000

/-- a frame, as both hold it -/
structure Fm where
  m : Int
  a : Int
  own : Nat
  stk : List Int

def pRow (k : Nat) (x : Fm) : List AV := [.int .i64 x.m, .int .i64 x.a, .int .u64 ((12 + 256 * x.own : Nat) : Int), .int .u64 ((12 + 256 * k + 152 : Nat) : Int), .int .i64 x.stk.length]
def rRow (vb : Nat → Nat) (sv : Nat → AV) (k : Nat) (x : Fm) : List AV :=
  [.int .i64 x.m, .int .i64 x.a, .int .i64 x.own, if x.own = k then .slice 1 (vb k) 0 152 (some 152) else .nils, sv k]

section
variable {d L : Nat} {h g : Heap} {bm bw bs bx : Nat} {ls l : AV} {f : Nat → Int} {fs : List Fm} {vs : Nat → Nat → Int} {vb : Nat → Nat} {sv : Nat → AV} {ρ : Nat → Nat × Nat}

/-- both stacks, side by side -/
structure Inv (h : Heap) (bm bw bs bx : Nat) (ls l : AV) (f : Nat → Int) (fs : List Fm) (vs : Nat → Nat → Int) (vb : Nat → Nat) (sv : Nat → AV) (ρ : Nat → Nat × Nat) : Prop where
  mem : MemAt h bm bw
  stack : StackAt h bs bm ls
  rows : OpenS 5 h ls (fs.mapIdx pRow)
  words : WordsAt h bw 16396 f
  ref : RefAt h bx l
  rrows : OpenS 5 h l (fs.mapIdx (rRow vb sv))
  len : fs.length ≤ 64
  own : ∀ (k : Nat) (x : Fm), fs[k]? = some x → x.own ≤ k ∧ ∃ y, fs[x.own]? = some y ∧ y.own = x.own
  stk : ∀ (k : Nat) (x : Fm), fs[k]? = some x → x.stk.length ≤ 96 ∧ ∀ i w, x.stk[i]? = some w → f (12 + 256 * k + 152 + i) = w
  vars : ∀ (k : Nat) (x : Fm), fs[k]? = some x → x.own = k → WordsAt h (vb k) 152 (vs k) ∧ ∀ i, i < 152 → f (12 + 256 * k + i) = vs k i
  svs : ∀ (k : Nat) (x : Fm), fs[k]? = some x → OpenS 1 h (sv k) (encW x.stk)
  rbm : ρ bm = (0, 0) ∧ bm < h.next
  rbw : ρ bw = (0, 1) ∧ bw < h.next
  rbs : ρ bs = (0, 2) ∧ bs < h.next
  rbx : ρ bx = (0, 3) ∧ bx < h.next
  rls : ∀ b, ls.blk = some b → ρ b = (0, 4) ∧ b < h.next
  rl : ∀ b, l.blk = some b → ρ b = (0, 5) ∧ b < h.next
  rvb : ∀ (k : Nat) (x : Fm), fs[k]? = some x → x.own = k → ρ (vb k) = (1, k) ∧ vb k < h.next
  rsv : ∀ (k : Nat) (x : Fm), fs[k]? = some x → ∀ b, (sv k).blk = some b → ρ b = (2, k) ∧ b < h.next

theorem Inv.touch0 (i : Inv h bm bw bs bx ls l f fs vs vb sv ρ) (ht : Touch h g []) : Inv g bm bw bs bx ls l f fs vs vb sv ρ where
  mem := i.mem.touch ht i.rbm.2 (by simp)
  stack := i.stack.touch ht i.rbs.2 (by simp)
  rows := i.rows.touch ht fun b hb => ⟨(i.rls b hb).2, by simp⟩
  words := i.words.same (ht.2 _ i.rbw.2 (by simp))
  ref := i.ref.touch ht i.rbx.2 (by simp)
  rrows := i.rrows.touch ht fun b hb => ⟨(i.rl b hb).2, by simp⟩
  len := i.len
  own := i.own
  stk := i.stk
  vars := fun k x hk ho => ⟨(i.vars k x hk ho).1.same (ht.2 _ (i.rvb k x hk ho).2 (by simp)), (i.vars k x hk ho).2⟩
  svs := fun k x hk => (i.svs k x hk).touch ht fun b hb => ⟨(i.rsv k x hk b hb).2, by simp⟩
  rbm := ⟨i.rbm.1, Nat.lt_of_lt_of_le i.rbm.2 ht.1⟩
  rbw := ⟨i.rbw.1, Nat.lt_of_lt_of_le i.rbw.2 ht.1⟩
  rbs := ⟨i.rbs.1, Nat.lt_of_lt_of_le i.rbs.2 ht.1⟩
  rbx := ⟨i.rbx.1, Nat.lt_of_lt_of_le i.rbx.2 ht.1⟩
  rls := fun b hb => ⟨(i.rls b hb).1, Nat.lt_of_lt_of_le (i.rls b hb).2 ht.1⟩
  rl := fun b hb => ⟨(i.rl b hb).1, Nat.lt_of_lt_of_le (i.rl b hb).2 ht.1⟩
  rvb := fun k x hk ho => ⟨(i.rvb k x hk ho).1, Nat.lt_of_lt_of_le (i.rvb k x hk ho).2 ht.1⟩
  rsv := fun k x hk b hb => ⟨(i.rsv k x hk b hb).1, Nat.lt_of_lt_of_le (i.rsv k x hk b hb).2 ht.1⟩

theorem Inv.plen (i : Inv h bm bw bs bx ls l f fs vs vb sv ρ) : lenD h .sl ls = some fs.length := by have := i.rows.len; simpa using this
theorem Inv.rlen (i : Inv h bm bw bs bx ls l f fs vs vb sv ρ) : lenD h .sl l = some fs.length := by have := i.rrows.len; simpa using this
/-- the program's row -/
theorem Inv.prow (i : Inv h bm bw bs bx ls l f fs vs vb sv ρ) (hn : 0 < fs.length) : ∃ b sp, ls = .slice 5 b 0 fs.length none ∧ RowsAt h b (fs.mapIdx pRow ++ sp) := by
  rcases i.rows with ⟨_, hh⟩ | ⟨b, sp, q1, q2⟩
  · have : fs = [] := by simpa using hh
    subst this; simp at hn
  · exact ⟨b, sp, by simpa using q1, q2⟩
theorem Inv.rrow (i : Inv h bm bw bs bx ls l f fs vs vb sv ρ) (hn : 0 < fs.length) : ∃ b sp, l = .slice 5 b 0 fs.length none ∧ h.get b = some (.cells 5 true (.list (fs.mapIdx (rRow vb sv) ++ sp))) := by
  rcases i.rrows with ⟨_, hh⟩ | ⟨b, sp, q1, q2⟩
  · have : fs = [] := by simpa using hh
    subst this; simp at hn
  · exact ⟨b, sp, by simpa using q1, q2⟩

/-- numbers read off a block -/
theorem WordsAt.reads {b n : Nat} {ws : List Int} {F : Nat → Int} (hw : WordsAt h b n F) (hl : ws.length = n) (he : ∀ i w, ws[i]? = some w → F i = w) (c : Option Nat) : lenD h .sl (.slice 1 b 0 n c) = some ws.length ∧
    ∀ k, k < ws.length → ∃ p w, iadV 1 (.slice 1 b 0 n c) k = some p ∧ ws[k]? = some w ∧ loadD h none p = some (.int .u64 w) := by
  subst hl
  obtain ⟨op, ct, q1, q2, q3⟩ := hw
  refine ⟨rfl, fun k hk => ?_⟩
  obtain ⟨w, hw⟩ : ∃ w, ws[k]? = some w := ⟨ws[k], by simp [hk]⟩
  refine ⟨.ptr b (0 + k) 0, w, by simp [hk], hw, ?_⟩
  rw [Nat.zero_add, loadD_at q1 (q3 k hk), he k w hw]; rfl

/-- 'same' words, of which one is a block of numbers -/
theorem swords2_spec {a b : AV} {ws : List Int} (ha : lenD h .sl a = some ws.length ∧ ∀ k, k < ws.length → ∃ p w, iadV 1 a k = some p ∧ ws[k]? = some w ∧ loadD h none p = some (.int .u64 w)) (hb : ReadsW h b ws) (hw : ws.length < 1000) (hL : 1000 < L) :
    callF tabT.get? L (d + 1) (.fn 12) [a, b] h = .ok (.bool true) h := by
  refine callF_run (fn := d12) rfl rfl ?_
  simp [d12, Env.get_put, ha.1, hb.len]
  generalize hrr : rounds _ _ _ _ = o
  obtain ⟨e', h', rfl, j1, j2⟩ : ∃ e' h', o = .go (.exit 0) e' h' ∧ noDs e' = true ∧ h' = h := by
    refine loop_exit (id := 0) hrr ws.length (fun k e g => noDs e = true ∧ e.get 0 = a ∧ e.get 1 = b ∧ e.get 5 = .int .i64 k ∧ g = h) (by omega) ?_ ?_ ?_
    · simp [Env.get_put]
    · rintro k hk e g ⟨i1, i2, i3, i4, rfl⟩
      obtain ⟨p, w, q1, q2, q3⟩ := ha.2 k hk
      obtain ⟨p', w', c1, c2, c3⟩ := hb.at_ k hk
      have : w' = w := Option.some.inj (c2.symm.trans q2)
      subst this
      have e2 : ((k : Int) < ws.length) = True := by simp; omega
      have e5 : IntKind.i64.wrap ((k : Int) + 1) = (k : Int) + 1 := wrap_i64 (by omega) (by omega)
      apply ex2
      · simp [Env.get_put, i2, i3, i4, ha.1, e2, e5, q1, q3, c1, c3]
        exact ⟨rfl, rfl⟩
      · simp [Env.get_put, i1, i2, i3]
    · rintro e g ⟨i1, i2, i3, i4, rfl⟩
      apply ex2
      · simp [Env.get_put, i2, i4, ha.1]
        exact ⟨rfl, rfl⟩
      · simp [i1]
  subst j2
  simp [j1, Env.get_put]
end
end Go.D.FB
namespace Go.D.FB
open Go.D
set_option maxRecDepth 100000
section
variable {d L : Nat} {h g : Heap} {bm bw bs bx : Nat} {ls l : AV} {f : Nat → Int} {fs : List Fm} {vs : Nat → Nat → Int} {vb : Nat → Nat} {sv : Nat → AV} {ρ : Nat → Nat × Nat}

theorem same_spec (iv : Inv h bm bw bs bx ls l f fs vs vb sv ρ) (hL : 1000 < L) : ∃ h', callF tabT.get? L (d + 4) (.fn 17) [.ptr bm 0 0, .ptr bs 0 0, .ptr bx 0 0] h = .ok (.bool true) h' ∧ Touch h h' [] := by
  suffices hh : ∃ h', finishF d17.results (evd (callF tabT.get? L (d + 3)) L false d17.body (startEnv [.ptr bm 0 0, .ptr bs 0 0, .ptr bx 0 0]) h) = .ok (.bool true) h' ∧ Touch h h' [] by
    obtain ⟨h', q1, q2⟩ := hh
    exact ⟨h', callF_run (fn := d17) rfl rfl q1, q2⟩
  have hdp := depth_spec (d := d + 2) (L := L) iv.stack iv.plen
  have hb := iv.rrows.beq
  simp [d17, Env.get_put, hdp, loadD_row iv.ref, iv.rlen, hb]
  generalize hrr : rounds _ _ _ _ = o
  obtain ⟨e', h', rfl, j1, j2⟩ : ∃ e' h', o = .go (.exit 0) e' h' ∧ noDs e' = true ∧ Touch h h' [] := by
    refine loop_exit (id := 0) hrr fs.length (fun k e g => noDs e = true ∧ e.get 0 = .ptr bm 0 0 ∧ e.get 1 = .ptr bs 0 0 ∧ e.get 2 = .ptr bx 0 0 ∧ e.get 23 = .int .i64 fs.length ∧ e.get 24 = .int .i64 k ∧ Touch h g []) (by have := iv.len; omega) ?_ ?_ ?_
    · simp [Env.get_put]
      exact .refl _ _
    · rintro k hk e g ⟨i1, i2, i3, i4, i5, i6, i7⟩
      have ig := iv.touch0 i7
      obtain ⟨x, hx⟩ : ∃ x, fs[k]? = some x := ⟨fs[k], by simp [hk]⟩
      obtain ⟨b0, sp, hls, hr0⟩ := ig.prow (by omega)
      obtain ⟨c0, sr, hl, hc0⟩ := ig.rrow (by omega)
      have hst := ig.stack
      rw [hls] at hst
      have hpk : (fs.mapIdx pRow ++ sp)[k]? = some (pRow k x) := by rw [List.getElem?_append_left (by simpa using hk)]; simp [hx]
      have hrk : ∀ j y, fs[j]? = some y → (fs.mapIdx (rRow vb sv) ++ sr)[j]? = some (rRow vb sv j y) := fun j y hj => by
        have hlt := (List.getElem?_eq_some_iff.1 hj).1
        rw [List.getElem?_append_left (by simpa using hlt)]; simp [hj]
      have hlen := ig.len
      have hb0 := ig.rls b0 (by rw [hls]; rfl)
      have hcc := ig.rl c0 (by rw [hl]; rfl)
      obtain ⟨g2, b, p1, p2, p3, p4, p5⟩ := frame_spec (d := d) (L := L) ig.mem hst ig.words hr0 hk hpk (by omega) (ig.stk k x hx).1 hL ig.rbm.2 ig.rbw.2 ig.rbs.2 hb0.2
      have hbase : ((12 + 256 * x.own : Nat) : Int) = 12 + (x.own : Int) * 256 := by omega
      rw [hbase] at p1
      obtain ⟨hok, y, hy, hyo⟩ := ig.own k x hx
      have hyl : x.own < fs.length := (List.getElem?_eq_some_iff.1 hy).1
      let zr : List AV := [.int .i64 0, .int .i64 0, .int .u64 0, .nils]
      let fr : List AV := [.int .i64 x.m, .int .i64 x.a, .int .u64 (12 + (x.own : Int) * 256), .slice 1 b 0 x.stk.length (some x.stk.length)]
      let g3 := g2.new (.cells 4 false (.list [zr]))
      let g4 := g3.set g2.next (.cells 4 false (.list [fr]))
      have t24 : Touch g2 g4 [] := (Touch.new (bs := [])).fresh (Nat.le_refl _)
      have t4 : Touch g g4 [] := p3.trans t24
      have hst4 : storeD g3 4 (.ptr g2.next 0 0) (.agg fr) = .ok (.tup []) g4 := storeD_row (y := zr) (by simp only [g3]; rw [Heap.get_new, if_pos rfl]) rfl
      have hfr : g4.get g2.next = some (.cells 4 false (.list [fr])) := by simp only [g4]; rw [Heap.get_set, if_pos rfl]
      have lf0 := loadD_row (k := none) (off := 0) hfr
      have lf1 := loadD_row (k := none) (off := 1) hfr
      have lf2 := loadD_row (k := none) (off := 2) hfr
      have lf3 := loadD_row (k := none) (off := 3) hfr
      simp [fr] at lf0 lf1 lf2 lf3
      have i4' := iv.touch0 (i7.trans t4)
      have hc4 : g4.get c0 = some (.cells 5 true (.list (fs.mapIdx (rRow vb sv) ++ sr))) := by rw [t4.2 _ hcc.2 (by simp)]; exact hc0
      have lr0 := loadD_at (k := none) (off := 0) hc4 (i := k) (y := rRow vb sv k x) (by simp only [Ct.get?]; exact hrk k x hx)
      have lr1 := loadD_at (k := none) (off := 1) hc4 (i := k) (y := rRow vb sv k x) (by simp only [Ct.get?]; exact hrk k x hx)
      have lr2 := loadD_at (k := none) (off := 2) hc4 (i := k) (y := rRow vb sv k x) (by simp only [Ct.get?]; exact hrk k x hx)
      have lr4 := loadD_at (k := none) (off := 4) hc4 (i := k) (y := rRow vb sv k x) (by simp only [Ct.get?]; exact hrk k x hx)
      have lro := loadD_at (k := none) (off := 3) hc4 (i := x.own) (y := rRow vb sv x.own y) (by simp only [Ct.get?]; exact hrk x.own y hy)
      simp [rRow, hyo] at lr0 lr1 lr2 lr4 lro
      have hlr := loadD_row (k := none) (off := 1) i4'.ref
      rw [hl] at hlr
      simp at hlr
      have hsw := swords2_spec (d := d + 2) (L := L) (WordsAt.reads (p2.same (t24.2 b p5 (by simp))) (ws := x.stk) rfl (fun i w hi => (iv.stk k x hx).2 i w hi) (some x.stk.length)) (i4'.svs k x hx).reads (by have := (iv.stk k x hx).1; omega) hL
      have hfm := frames_spec (d := d + 2) (L := L) i4'.mem
      have e2 : ((k : Int) < fs.length) = True := by simp; omega
      have e3 : IntKind.u64.wrap (x.own : Int) = x.own := wrap_u64 (by omega) (by omega)
      have e4 : IntKind.u64.wrap ((x.own : Int) * 256) = (x.own : Int) * 256 := wrap_u64 (by omega) (by omega)
      have e5 : IntKind.u64.wrap (12 + (x.own : Int) * 256) = 12 + (x.own : Int) * 256 := wrap_u64 (by omega) (by omega)
      simp only [g3, zr, fr] at hst4
      have hn4 : g3.next = g2.next + 1 := rfl
      simp [Env.get_put, i2, i3, i4, i5, i6, e2, p1, hst4, lf0, lf1, lf2, lf3, hlr, hk, hyl, lr0, lr1, lr2, lr4, lro, hsw, hfm, e3, e4, e5, lenD]
      generalize hr2 : rounds _ _ _ _ = o2
      obtain ⟨e5', g5, rfl, k1, k2, k3, k4, k5, k6, rfl⟩ : ∃ e5 g5, o2 = .go (.exit 2) e5 g5 ∧ noDs e5 = true ∧ e5.get 0 = .ptr bm 0 0 ∧ e5.get 1 = .ptr bs 0 0 ∧ e5.get 2 = .ptr bx 0 0 ∧ e5.get 23 = .int .i64 fs.length ∧ e5.get 24 = .int .i64 k ∧ g5 = g4 := by
        refine loop_exit (id := 2) hr2 152 (fun j e3 g' => noDs e3 = true ∧ e3.get 0 = .ptr bm 0 0 ∧ e3.get 1 = .ptr bs 0 0 ∧ e3.get 2 = .ptr bx 0 0 ∧ e3.get 23 = .int .i64 fs.length ∧ e3.get 24 = .int .i64 k ∧
          e3.get 8 = .ptr g2.next 0 0 ∧ e3.get 9 = .slice 1 (vb x.own) 0 152 (some 152) ∧ e3.get 102 = .int .i64 152 ∧ e3.get 103 = .int .i64 j ∧ g' = g4) (by omega) ?_ ?_ ?_
        · simp [Env.get_put, i1, i2, i3, i4, i5, i6, lenD]
        · rintro j hj e3 g' ⟨m1, m2, m3, m4, m5, m6, m7, m8, m9, m10, rfl⟩
          obtain ⟨⟨op, ct, w1, w2, w3⟩, w4⟩ := i4'.vars x.own y hy hyo
          have hgt := get_spec (d := d + 2) (L := L) (at_ := 12 + 256 * x.own + j) i4'.mem i4'.words (by omega)
          rw [w4 j hj] at hgt
          have c1 : ((12 + 256 * x.own + j : Nat) : Int) = 12 + (x.own : Int) * 256 + j := by omega
          rw [c1] at hgt
          have c2 : ((j : Int) < 152) = True := by simp; omega
          have c3 : IntKind.u64.wrap (j : Int) = j := wrap_u64 (by omega) (by omega)
          have c4 : IntKind.u64.wrap (12 + (x.own : Int) * 256 + j) = 12 + (x.own : Int) * 256 + j := wrap_u64 (by omega) (by omega)
          have c5 : IntKind.i64.wrap ((j : Int) + 1) = (j : Int) + 1 := wrap_i64 (by omega) (by omega)
          have c6 := loadD_at (k := none) (off := 0) w1 (w3 j hj)
          simp at c6
          apply ex2
          · simp [Env.get_put, m2, m7, m8, m9, m10, c2, c3, c4, c5, c6, hgt, lf2, hj]
            exact ⟨rfl, rfl⟩
          · simp [Env.get_put, m1, m2, m3, m4, m5, m6, m7, m8, m9]
        · rintro e3 g' ⟨m1, m2, m3, m4, m5, m6, m7, m8, m9, m10, rfl⟩
          apply ex2
          · simp [Env.get_put, m9, m10]
            exact ⟨rfl, rfl⟩
          · simp [Env.get_put, m1, m2, m3, m4, m5, m6]
      have c7 : IntKind.i64.wrap ((k : Int) + 1) = (k : Int) + 1 := wrap_i64 (by omega) (by omega)
      apply ex2
      · simp [Env.get_put, k6, c7]
        exact ⟨rfl, rfl⟩
      · simp [Env.get_put, k1, k2, k3, k4, k5]
        exact i7.trans t4
    · rintro e g ⟨i1, i2, i3, i4, i5, i6, i7⟩
      apply ex2
      · simp [Env.get_put, i5, i6]
        exact ⟨rfl, rfl⟩
      · simp [i1, i7]
  simp [j1, j2, Env.get_put]
end
end Go.D.FB
namespace Go.D.FB
open Go.D
set_option maxRecDepth 100000

/-- whose block it is -/
def isP (r : Nat × Nat) : Prop := r = (0, 0) ∨ r = (0, 1) ∨ r = (0, 2) ∨ r = (0, 4)
def isR (r : Nat × Nat) : Prop := r = (0, 3) ∨ r = (0, 5) ∨ r.1 = 1 ∨ r.1 = 2

section
variable {d L : Nat} {h g : Heap} {bm bw bs bx : Nat} {ls l : AV} {f : Nat → Int} {fs : List Fm} {vs : Nat → Nat → Int} {vb : Nat → Nat} {sv : Nat → AV} {ρ ρ' : Nat → Nat × Nat}

structure PInv (h : Heap) (bm bw bs : Nat) (ls : AV) (f : Nat → Int) (fs : List Fm) (ρ : Nat → Nat × Nat) : Prop where
  mem : MemAt h bm bw
  stack : StackAt h bs bm ls
  rows : OpenS 5 h ls (fs.mapIdx pRow)
  words : WordsAt h bw 16396 f
  len : fs.length ≤ 64
  stk : ∀ (k : Nat) (x : Fm), fs[k]? = some x → x.stk.length ≤ 96 ∧ ∀ i w, x.stk[i]? = some w → f (12 + 256 * k + 152 + i) = w
  rbm : ρ bm = (0, 0) ∧ bm < h.next
  rbw : ρ bw = (0, 1) ∧ bw < h.next
  rbs : ρ bs = (0, 2) ∧ bs < h.next
  rls : ∀ b, ls.blk = some b → ρ b = (0, 4) ∧ b < h.next

structure RInv (h : Heap) (bx : Nat) (l : AV) (fs : List Fm) (vs : Nat → Nat → Int) (vb : Nat → Nat) (sv : Nat → AV) (ρ : Nat → Nat × Nat) : Prop where
  ref : RefAt h bx l
  rrows : OpenS 5 h l (fs.mapIdx (rRow vb sv))
  len : fs.length ≤ 64
  own : ∀ (k : Nat) (x : Fm), fs[k]? = some x → x.own ≤ k ∧ ∃ y, fs[x.own]? = some y ∧ y.own = x.own
  stk : ∀ (k : Nat) (x : Fm), fs[k]? = some x → x.stk.length ≤ 96
  vars : ∀ (k : Nat) (x : Fm), fs[k]? = some x → x.own = k → WordsAt h (vb k) 152 (vs k)
  svs : ∀ (k : Nat) (x : Fm), fs[k]? = some x → OpenS 1 h (sv k) (encW x.stk)
  rbx : ρ bx = (0, 3) ∧ bx < h.next
  rl : ∀ b, l.blk = some b → ρ b = (0, 5) ∧ b < h.next
  rvb : ∀ (k : Nat) (x : Fm), fs[k]? = some x → x.own = k → ρ (vb k) = (1, k) ∧ vb k < h.next
  rsv : ∀ (k : Nat) (x : Fm), fs[k]? = some x → ∀ b, (sv k).blk = some b → ρ b = (2, k) ∧ b < h.next

def Link (f : Nat → Int) (fs : List Fm) (vs : Nat → Nat → Int) : Prop := ∀ (k : Nat) (x : Fm), fs[k]? = some x → x.own = k → ∀ i, i < 152 → f (12 + 256 * k + i) = vs k i

theorem Inv.p (i : Inv h bm bw bs bx ls l f fs vs vb sv ρ) : PInv h bm bw bs ls f fs ρ := ⟨i.mem, i.stack, i.rows, i.words, i.len, i.stk, i.rbm, i.rbw, i.rbs, i.rls⟩
theorem Inv.r (i : Inv h bm bw bs bx ls l f fs vs vb sv ρ) : RInv h bx l fs vs vb sv ρ :=
  ⟨i.ref, i.rrows, i.len, i.own, fun k x hk => (i.stk k x hk).1, fun k x hk ho => (i.vars k x hk ho).1, i.svs, i.rbx, i.rl, i.rvb, i.rsv⟩
theorem Inv.link (i : Inv h bm bw bs bx ls l f fs vs vb sv ρ) : Link f fs vs := fun k x hk ho => (i.vars k x hk ho).2
theorem Inv.of (p : PInv h bm bw bs ls f fs ρ) (r : RInv h bx l fs vs vb sv ρ) (lk : Link f fs vs) : Inv h bm bw bs bx ls l f fs vs vb sv ρ :=
  ⟨p.mem, p.stack, p.rows, p.words, r.ref, r.rrows, p.len, r.own, p.stk, fun k x hk ho => ⟨r.vars k x hk ho, lk k x hk ho⟩, r.svs, p.rbm, p.rbw, p.rbs, r.rbx, p.rls, r.rl, r.rvb, r.rsv⟩

theorem PInv.touch {T : List Nat} (i : PInv h bm bw bs ls f fs ρ) (ht : Touch h g T) (hT : ∀ b ∈ T, ¬ isP (ρ b)) : PInv g bm bw bs ls f fs ρ where
  mem := i.mem.touch ht i.rbm.2 fun hh => hT _ hh (by rw [i.rbm.1]; simp [isP])
  stack := i.stack.touch ht i.rbs.2 fun hh => hT _ hh (by rw [i.rbs.1]; simp [isP])
  rows := i.rows.touch ht fun b hb => ⟨(i.rls b hb).2, fun hh => hT _ hh (by rw [(i.rls b hb).1]; simp [isP])⟩
  words := i.words.same (ht.2 _ i.rbw.2 fun hh => hT _ hh (by rw [i.rbw.1]; simp [isP]))
  len := i.len
  stk := i.stk
  rbm := ⟨i.rbm.1, Nat.lt_of_lt_of_le i.rbm.2 ht.1⟩
  rbw := ⟨i.rbw.1, Nat.lt_of_lt_of_le i.rbw.2 ht.1⟩
  rbs := ⟨i.rbs.1, Nat.lt_of_lt_of_le i.rbs.2 ht.1⟩
  rls := fun b hb => ⟨(i.rls b hb).1, Nat.lt_of_lt_of_le (i.rls b hb).2 ht.1⟩
theorem PInv.rho (i : PInv h bm bw bs ls f fs ρ) (hr : ∀ b, b < h.next → ρ' b = ρ b) : PInv h bm bw bs ls f fs ρ' :=
  { i with
    rbm := ⟨by rw [hr _ i.rbm.2]; exact i.rbm.1, i.rbm.2⟩
    rbw := ⟨by rw [hr _ i.rbw.2]; exact i.rbw.1, i.rbw.2⟩
    rbs := ⟨by rw [hr _ i.rbs.2]; exact i.rbs.1, i.rbs.2⟩
    rls := fun b hb => ⟨by rw [hr _ (i.rls b hb).2]; exact (i.rls b hb).1, (i.rls b hb).2⟩ }

theorem RInv.touch {T : List Nat} (i : RInv h bx l fs vs vb sv ρ) (ht : Touch h g T) (hT : ∀ b ∈ T, ¬ isR (ρ b)) : RInv g bx l fs vs vb sv ρ where
  ref := i.ref.touch ht i.rbx.2 fun hh => hT _ hh (by rw [i.rbx.1]; simp [isR])
  rrows := i.rrows.touch ht fun b hb => ⟨(i.rl b hb).2, fun hh => hT _ hh (by rw [(i.rl b hb).1]; simp [isR])⟩
  len := i.len
  own := i.own
  stk := i.stk
  vars := fun k x hk ho => (i.vars k x hk ho).same (ht.2 _ (i.rvb k x hk ho).2 fun hh => hT _ hh (by rw [(i.rvb k x hk ho).1]; simp [isR]))
  svs := fun k x hk => (i.svs k x hk).touch ht fun b hb => ⟨(i.rsv k x hk b hb).2, fun hh => hT _ hh (by rw [(i.rsv k x hk b hb).1]; simp [isR])⟩
  rbx := ⟨i.rbx.1, Nat.lt_of_lt_of_le i.rbx.2 ht.1⟩
  rl := fun b hb => ⟨(i.rl b hb).1, Nat.lt_of_lt_of_le (i.rl b hb).2 ht.1⟩
  rvb := fun k x hk ho => ⟨(i.rvb k x hk ho).1, Nat.lt_of_lt_of_le (i.rvb k x hk ho).2 ht.1⟩
  rsv := fun k x hk b hb => ⟨(i.rsv k x hk b hb).1, Nat.lt_of_lt_of_le (i.rsv k x hk b hb).2 ht.1⟩
theorem RInv.rho (i : RInv h bx l fs vs vb sv ρ) (hr : ∀ b, b < h.next → ρ' b = ρ b) : RInv h bx l fs vs vb sv ρ' :=
  { i with
    rbx := ⟨by rw [hr _ i.rbx.2]; exact i.rbx.1, i.rbx.2⟩
    rl := fun b hb => ⟨by rw [hr _ (i.rl b hb).2]; exact (i.rl b hb).1, (i.rl b hb).2⟩
    rvb := fun k x hk ho => ⟨by rw [hr _ (i.rvb k x hk ho).2]; exact (i.rvb k x hk ho).1, (i.rvb k x hk ho).2⟩
    rsv := fun k x hk b hb => ⟨by rw [hr _ (i.rsv k x hk b hb).2]; exact (i.rsv k x hk b hb).1, (i.rsv k x hk b hb).2⟩ }

/-- a fresh block's role -/
def role (ρ : Nat → Nat × Nat) (b : Nat) (r : Nat × Nat) : Nat → Nat × Nat := fun x => if x = b then r else ρ x

theorem PInv.plen (i : PInv h bm bw bs ls f fs ρ) : lenD h .sl ls = some fs.length := by have := i.rows.len; simpa using this
theorem PInv.prow (i : PInv h bm bw bs ls f fs ρ) (hn : 0 < fs.length) : ∃ b sp, ls = .slice 5 b 0 fs.length none ∧ RowsAt h b (fs.mapIdx pRow ++ sp) := by
  rcases i.rows with ⟨_, hh⟩ | ⟨b, sp, q1, q2⟩
  · have : fs = [] := by simpa using hh
    subst this; simp at hn
  · exact ⟨b, sp, by simpa using q1, q2⟩
theorem PInv.ne (i : PInv h bm bw bs ls f fs ρ) : bm ≠ bw ∧ bs ≠ bw ∧ bm ≠ bs := by
  refine ⟨fun hh => ?_, fun hh => ?_, fun hh => ?_⟩
  · have := i.rbm.1; rw [hh, i.rbw.1] at this; cases this
  · have := i.rbs.1; rw [hh, i.rbw.1] at this; cases this
  · have := i.rbm.1; rw [hh, i.rbs.1] at this; cases this
theorem PInv.nls (i : PInv h bm bw bs ls f fs ρ) {b : Nat} (hb : ls.blk = some b) : b < h.next ∧ b ≠ bm ∧ b ≠ bw ∧ b ≠ bs := by
  obtain ⟨h1, h2⟩ := i.rls b hb
  refine ⟨h2, fun hh => ?_, fun hh => ?_, fun hh => ?_⟩
  · rw [hh, i.rbm.1] at h1; cases h1
  · rw [hh, i.rbw.1] at h1; cases h1
  · rw [hh, i.rbs.1] at h1; cases h1

theorem mapIdx_snoc {α β : Type} (F : Nat → α → β) (l : List α) (x : α) : (l ++ [x]).mapIdx F = l.mapIdx F ++ [F l.length x] := by simp [List.mapIdx_append]
theorem mapIdx_set {α β : Type} (F : Nat → α → β) (l : List α) (k : Nat) (x : α) : (l.set k x).mapIdx F = (l.mapIdx F).set k (F k x) := by
  apply List.ext_getElem?
  intro i
  rw [List.getElem?_mapIdx, List.getElem?_set, List.getElem?_set]
  simp only [List.length_mapIdx]
  by_cases h1 : k = i
  · subst h1
    by_cases h2 : k < l.length <;> simp [h2]
  · simp [h1]
theorem mapIdx_take {α β : Type} (F : Nat → α → β) (l : List α) (n : Nat) : (l.take n).mapIdx F = (l.mapIdx F).take n := by
  apply List.ext_getElem?
  intro i
  rw [List.getElem?_mapIdx, List.getElem?_take, List.getElem?_take, List.getElem?_mapIdx]
  split <;> rfl

/-- what comes of a piece of work on the program's side -/
structure PGo (h h' : Heap) (ρ ρ' : Nat → Nat × Nat) (T : List Nat) : Prop where
  touch : Touch h h' T
  roles : ∀ b ∈ T, isP (ρ b) ∧ b < h.next
  old : ∀ b, b < h.next → ρ' b = ρ b
structure RGo (h h' : Heap) (ρ ρ' : Nat → Nat × Nat) (T : List Nat) : Prop where
  touch : Touch h h' T
  roles : ∀ b ∈ T, isR (ρ b) ∧ b < h.next
  old : ∀ b, b < h.next → ρ' b = ρ b

theorem isP_not_isR {r : Nat × Nat} (h : isP r) : ¬ isR r := by
  rcases h with rfl | rfl | rfl | rfl <;> simp [isR]
theorem isR_not_isP {r : Nat × Nat} (h : isR r) : ¬ isP r := fun hp => isP_not_isR hp h
end
end Go.D.FB
