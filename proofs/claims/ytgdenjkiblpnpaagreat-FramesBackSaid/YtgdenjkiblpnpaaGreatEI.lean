/-
  The abstract evaluator 'D': regions that draw their order: the whole; calls at whatever depth.
-/
import Derived.Test.YtgdenjkiblpnpaaGreatEH
namespace Go.D
section
variable {P : Program} {call : Caller} {n : Nat} {ops : Array Oper} {all : List El} {K0 : Km} {m0 : Mm} {h0 : Heap} {w0 : World} {Q : Exit → Act → World → Prop}
  {ls : Array Bool} {l1 l2 : List El} {eS e1 : Env} {h1 : Heap} {K : Km} {m : Mm} {a : Act} {w : World} {B : Nat → Nat}

/-- how many have not come up -/
def unl (ls : Array Bool) : Nat := ls.toList.count false

theorem unl_set {ls : Array Bool} {i : Nat} (hi : i < ls.size) (hf : on ls i = false) : unl ls = unl (ls.setIfInBounds i true) + 1 := by
  unfold unl
  have h1 : ls.toList[i]'(by simpa using hi) = false := by
    unfold on at hf
    rw [Array.getD_eq_getD_getElem?, Array.getElem?_eq_getElem hi] at hf
    simpa using hf
  rw [Array.toList_setIfInBounds, List.count_set (by simpa using hi), h1]
  have : 0 < ls.toList.count false := List.count_pos_iff.2 (h1 ▸ List.getElem_mem _)
  rw [if_pos (by rfl), if_neg (by decide)]
  omega

theorem unl_none {ls : Array Bool} (h : unl ls = 0) {i : Nat} (hi : i < ls.size) : on ls i = true := by
  cases hf : on ls i with
  | true => rfl
  | false => rw [unl_set hi hf] at h; omega

theorem any_ok {ro : Option Nat} (cok : CallOk P call) (okd : Okd P n ops all) (hro : ro ≠ none → all.any (fun o => o.2.1.ins.isDfr) = false) : ∀ (fuel : Nat) {ls : Array Bool} {l1 l2 : List El} {eS e1 : Env} {h1 : Heap} {K : Km} {m : Mm} {a : Act} {w : World} {B : Nat → Nat},
    unl ls ≤ fuel → Inv P call n ops all K0 m0 h0 w0 Q ls l1 l2 eS e1 h1 K m a w B → wpAnyIn (Wide ro) 0 P .any ops Q fuel ls a w := by
  have hend : ∀ {ls : Array Bool} {l1 l2 : List El} {eS e1 : Env} {h1 : Heap} {K : Km} {m : Mm} {a : Act} {w : World} {B : Nat → Nat}, Inv P call n ops all K0 m0 h0 w0 Q ls l1 l2 eS e1 h1 K m a w B →
      Region.ready .any ops ls = [] → Q .normal a w := by
    intro ls l1 l2 eS e1 h1 K m a w B inv hr
    have hall := all_listed okd inv.size hr
    have hon : ∀ x ∈ all, on ls x.1 = true := fun x hx => by
      obtain ⟨o, ho, _⟩ := okd.elem x hx
      exact hall _ (Array.getElem?_eq_some_iff.1 ho).1
    have h2 : l2 = [] := by
      cases l2 with
      | nil => rfl
      | cons x q =>
        have q1 := inv.two x (by simp)
        rw [hon x (by rw [inv.split]; simp)] at q1; cases q1
    subst h2
    have hout := inv.out
    simp only [drawnD] at hout
    refine hout K m w a inv.rel ⟨fun t => ?_, inv.env.size, by rw [← inv.ds]; exact inv.env.ds⟩ inv.ext
    rw [← inv.same t fun x hx hs => by rw [hon x (by rw [inv.split]; simp [hx])] at hs; cases hs]
    exact inv.env.get t
  intro fuel
  induction fuel with
  | zero =>
    intro ls l1 l2 eS e1 h1 K m a w B hu inv
    have hr : Region.ready .any ops ls = [] := by
      rw [List.eq_nil_iff_forall_not_mem]
      intro i hi
      obtain ⟨h0, o, ho, _⟩ := mem_ready.1 hi
      have hlt : i < ls.size := by rw [inv.size]; exact (Array.getElem?_eq_some_iff.1 ho).1
      have := unl_none (Nat.le_zero.1 hu) hlt
      unfold on at this
      rw [Array.getD_eq_getD_getElem?, Array.getElem?_eq_getElem hlt] at this h0
      simp only [Option.getD_some] at this h0
      rw [h0] at this; cases this
    exact ⟨hr, hend inv hr⟩
  | succ fuel ih =>
    intro ls l1 l2 eS e1 h1 K m a w B hu inv
    refine ⟨hend inv, fun i hi => ?_⟩
    obtain ⟨h0, o, ho, _⟩ := mem_ready.1 hi
    have hlt : i < ls.size := by rw [inv.size]; exact (Array.getElem?_eq_some_iff.1 ho).1
    have hoff : on ls i = false := (ready_bef okd inv.clo ho hi).1
    have hu' : unl (ls.setIfInBounds i true) ≤ fuel := by rw [unl_set hlt hoff] at hu; omega
    obtain ⟨x, hx, rfl⟩ := okd.cover i (by rw [← inv.size]; exact hlt)
    obtain ⟨l1', l2', e', h', B', inv', hl2⟩ := inv.advance okd
    rw [inv'.split] at hx
    rcases List.mem_append.1 hx with hx | hx
    · exact inv'.up cok okd hx hoff hi fun eS' K' m' a' w' iv => ih hu' iv
    · rcases hl2 with rfl | ⟨y, q, rfl, hyw⟩
      · cases hx
      · rcases List.mem_cons.1 hx with rfl | hx
        · refine inv'.write cok okd hi (fun h => ?_) hyw fun eS' e2 h2 K' m' a' w' iv => ih hu' iv
          have := hro h
          rw [List.any_eq_false] at this
          simpa using this x (by rw [inv'.split]; simp)
        · exfalso
          have hp := okd.before (l1 := l1' ++ [y]) (l2 := q) (by rw [inv'.split]; simp) (x := y) (by simp) hx
          have h3 := (ready_bef okd inv'.clo ho hi).2 _ (hp.wr hyw)
          rw [inv'.two y (by simp)] at h3; cases h3

theorem drawn_ok (hm : P.follows .mixedOrders = true) (cok : CallOk P call) : DrawnOk P call := by
  intro ro n id ops l K m h w e a Q r he ho hro hq
  refine wpIn_region_any hm ?_
  have hsame : SameHeap w { w with drawn := w.drawn + 1 } := ⟨rfl, rfl, rfl, rfl⟩
  have hoff : ∀ i, on (Array.replicate ops.size false) i = false := fun i => by
    unfold on
    rw [Array.getD_eq_getD_getElem?, Array.getElem?_replicate]
    split <;> rfl
  refine any_ok (K0 := K) (m0 := m) (h0 := h) (w0 := { w with drawn := w.drawn + 1 }) (all := l) (l1 := []) (l2 := l) (eS := e) (e1 := e) (h1 := h) (K := K) (m := m) (B := fun _ => 0) cok (okd_of ho) hro _ ?_ ?_
  · unfold unl
    refine Nat.le_trans List.count_le_length ?_
    simp
  · exact {
      size := by simp
      split := rfl
      two := fun x _ => hoff _
      wr := fun x hx => by cases hx
      clo := fun i j _ hi => by rw [hoff] at hi; cases hi
      rel := r.same hsame
      env := he
      ext := .refl ..
      ds := rfl
      same := fun _ _ => rfl
      val := fun x hx => by cases hx
      low := fun x hx => by cases hx
      inj := fun x hx => by cases hx
      out := OutOk.trans (Ext.same hsame) hq }

theorem callD_ok (hm : P.follows .mixedOrders = true) {tab : Nat → Option DFunc} (ht : TabOk P tab) (L d : Nat) : CallOk P (callF tab L d) :=
  callF_ok ht (fun _ cok => drawn_ok hm cok) d
end
end Go.D
