/-
  The abstract evaluator 'D': a function's body; an operation in the place of another one.
-/
import Derived.Test.YtgdenjkiblpnpaaGreatEJ
namespace Go.D

/-- a function's code, run -/
def bodyF (call : Caller) (tab : Nat → Option DFunc) (L : Nat) (fn : DFunc) (args : List AV) (h : Heap) : Res AV :=
  bif !(Nat.beq args.length fn.nargs) then .err else
    match evd call L false fn.body (startEnv args) h with
    | .go (.exit _) _ _ => .err
    | .go _ e h => leave call tab L fn.results e e.ds none h
    | .panic v e h => leave call tab L fn.results e e.ds (some v) h
    | .err => .err

theorem callF_fn {tab : Nat → Option DFunc} {L d f : Nat} {fn : DFunc} {args : List AV} {h : Heap} (ht : tab f = some fn) :
    callF tab L (d + 1) (.fn f) args h = bodyF (callF tab L d) tab L fn args h := by
  simp only [callF, ht]
  rfl

/-- the body of a function is as good as another one -/
theorem bodyF_congr {call : Caller} {tab : Nat → Option DFunc} {L : Nat} {fn : DFunc} {c : DCode} {args : List AV} {h : Heap}
    (hc : evd call L false fn.body = evd call L false c) : bodyF call tab L fn args h = bodyF call tab L { fn with body := c } args h := by
  simp only [bodyF, hc]

theorem opsD_cons {call : Caller} {o o' : DOp} {l l' : List DOp} (h : opD call o = opD call o') (hl : opsD call l = opsD call l') : opsD call (o :: l) = opsD call (o' :: l') := by
  funext e g
  simp only [opsD, h, hl]

theorem evd_ops {call : Caller} {L : Nat} {l l' : List DOp} (h : opsD call l = opsD call l') : evd call L false (.ops l) = evd call L false (.ops l') := by
  funext e g
  simp only [evd, h, Bool.false_and, cond_false]

theorem evd_seq {call : Caller} {L : Nat} {r : Bool} {a a' b b' : DCode} (ha : evd call L r a = evd call L r a') (hb : evd call L r b = evd call L r b') : evd call L r (.seq a b) = evd call L r (.seq a' b') := by
  funext e g
  simp only [evd, ha, hb]

/-- a call of what has no part in the heap, whose answer is known -/
theorem opD_pcall {call : Caller} {t f : Nat} {v : AV} {h' : Heap} (hc : call (.fn f) [] .empty = .ok v h') (hv : frz h' 16 v = some v) : opD call (.a t (.pcall f [])) = opD call (.a t (.mv (.c v))) := by
  funext e g
  simp only [opD, DOp.a, wanted, step, pureCall, List.map_nil, AV.trees, cond_true, hc, hv, Res.of, DO.ev]

end Go.D
