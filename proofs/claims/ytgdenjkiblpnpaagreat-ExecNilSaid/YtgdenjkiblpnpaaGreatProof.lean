/-
  The law 'execNil' returns true for every int8, whatever lies in memory, and touches nothing that was there.
  Conditions: none.
-/
import Derived.Test.YtgdenjkiblpnpaaGreatRows
import Derived.Test.YtgdenjkiblpnpaaGreatR
import Derived.Test.YtgdenjkiblpnpaaGreatK
import Derived.Test.YtgdenjkiblpnpaaGreatJ
import Derived.Test.YtgdenjkiblpnpaaGreatS0
import Derived.Test.YtgdenjkiblpnpaaGreatS1
import Derived.Test.YtgdenjkiblpnpaaGreatS2
import Derived.Test.YtgdenjkiblpnpaaGreatS3
import Derived.Test.YtgdenjkiblpnpaaGreatS4
import Derived.Test.YtgdenjkiblpnpaaGreatS5
import Derived.Test.YtgdenjkiblpnpaaGreatS6
import Derived.Test.YtgdenjkiblpnpaaGreatS7
import Derived.WalkKit
import Derived.ProofKit
import Derived.OpenShut
namespace Go.Proofs.YtgdenjkiblpnpaaGreat.execNil
open Go.ChangeShapes Go.WideShapes Go.ChangeAt Go.RowKit Go.D
set_option maxRecDepth 100000
set_option linter.unusedVariables false      -- a walk need not use every 'w<i>' (that an integer argument fits its kind)

theorem own : ownKnob Tryz.prog.godebug = none := by kernel_rfl

theorem run (n : Int) (w0 : (Lit.int .i8 n).wf = true) : (callF tabT.get? 1000 60 (.fn 4) [.int .i8 n] .empty).isTrue = true := by
  have hx : -128 ≤ n ∧ n ≤ 127 := by simpa [Lit.wf, IntKind.min, IntKind.max, IntKind.signed, IntKind.bits] using w0
  obtain ⟨h', hw⟩ := Res.isTrue_spec w
  have h3 : tabT.get? 4 = some d4 := by kernel_rfl
  have e3 : ({ d4 with body := d4b.body } : DFunc) = d4b := by kernel_rfl
  rw [callF_fn h3, bodyF_congr (c := d4b.body) (evd_seq rfl (evd_seq rfl (evd_seq (evd_ops (opsD_cons (opD_pcall hw rfl) rfl)) rfl))), e3]
  obtain ⟨i, hi, rfl⟩ : ∃ i : Nat, i < 256 ∧ n = Int.ofNat i - 128 := ⟨(n + 128).toNat, by omega, by simp only [Int.ofNat_eq_natCast]; omega⟩
  have hc : i < 32 ∨ (32 ≤ i ∧ i < 64) ∨ (64 ≤ i ∧ i < 96) ∨ (96 ≤ i ∧ i < 128) ∨ (128 ≤ i ∧ i < 160) ∨ (160 ≤ i ∧ i < 192) ∨ (192 ≤ i ∧ i < 224) ∨ 224 ≤ i := by omega
  rcases hc with h | h | h | h | h | h | h | h
  · exact List.all_eq_true.1 s0 i (List.mem_range'_1.2 (by omega))
  · exact List.all_eq_true.1 s1 i (List.mem_range'_1.2 (by omega))
  · exact List.all_eq_true.1 s2 i (List.mem_range'_1.2 (by omega))
  · exact List.all_eq_true.1 s3 i (List.mem_range'_1.2 (by omega))
  · exact List.all_eq_true.1 s4 i (List.mem_range'_1.2 (by omega))
  · exact List.all_eq_true.1 s5 i (List.mem_range'_1.2 (by omega))
  · exact List.all_eq_true.1 s6 i (List.mem_range'_1.2 (by omega))
  · exact List.all_eq_true.1 s7 i (List.mem_range'_1.2 (by omega))

theorem walk (a0 : Int) (w0 : (Lit.int .i8 a0).wf = true) (w : World) :
    Calls Tryz.prog 4 #[.int .i8 a0] w fun e w' => e = .returned (.bool true) ∧ w.keptBut w' (fun _ => False) :=
  calls_true Tryz.checked.mixed tabOk (.cons (.int ..) .nil) (run a0 w0) w

/-! ### THE ROW's STEP: WRITTEN OUT: LEAVE IT -/
set_option maxRecDepth 100000 in
theorem lifted (os : Os) (started : os.Started) (H : Type) (enc : TypeId × Value → H) :
    ReturnsInHanded {} Tryz.checked os 4 .any (Rows.execNilSpec.pre6 enc Tryz.prog Tryz.f4 Rows.execNilRow.domain false) (Rows.execNilSpec.post enc Tryz.prog Tryz.f4 false true false false) := by
  refine returnsInHanded_of_change (C := Tryz.checked) own started (by kernel_rfl) Tryz.func4
    (ChangeSpec.witness6 (enc := enc) (C := Tryz.checked) false ⟨#[], #[.int .i8 0], []⟩ 8 (by kernel_rfl) (by kernel_rfl) (by kernel_rfl) (by kernel_rfl)) ?_
  intro W base args ds gs before hval0 hW hcnd _
  have hval : ∀ (j : Nat) t v, Tryz.f4.params[j]? = some t → args[j]? = some v → Value.okWide Tryz.prog W .any base t v := hval0
  have hW' := hW
  obtain ⟨p, q, hA0, hV, rfl, hfz, hnd⟩ := hW
  have hA : DataW.TrodAll enc Tryz.prog W 0 (fun _ => true) true Tryz.f4.params.toList args.toList ds p := hA0
  rw [Tryz.params4] at hA hval
  obtain ⟨v0, vs0, d0, ds0, p0, q0, hargs, rfl, rfl, h0, r0⟩ := trodAll_cons hA
  obtain ⟨rfl, rfl, rfl⟩ := trodAll_nil r0
  obtain rfl : args = #[v0] := by cases args; simp_all
  obtain ⟨rfl, rfl⟩ := trodVars_none hV
  obtain ⟨a0, rfl, rfl, rfl, w0⟩ := open_int Tryz.underlying45 (hval 0 45 v0 rfl rfl) h0
  clear hA0 hval0
  simp only [List.append_nil] at hW'
  refine (walk a0 w0 W).mono fun e W' ⟨he, hg⟩ => ?_
  subst he
  exact ⟨_, rfl, post_nil hW' (fun _ _ _ => (trodAll_cons_mk (shut_bool Tryz.underlying4 _) trodAll_mk0)) (fun _ => (trodAll_cons_mk (shut_int Tryz.underlying45 w0) trodAll_mk0)) (fun _ => rfl)
    hg (ok_one (by kernel_rfl) rfl (okWide_bool_mk Tryz.underlying4 _))⟩

theorem over : Rows.execNilRow.holds Tryz.pinned (OpenSpec.ofChange Rows.execNilSpec) :=
  OpenClaim.holds_of_wide 4 Tryz.f4 rfl rfl rfl rfl rfl rfl rfl ⟨rfl, rfl, rfl, rfl, rfl⟩ rfl rfl rfl rfl rfl (by kernel_rfl) Tryz.func4 facts
    (of_decide_eq_true (by kernel_rfl)) (by unfold Func.isWrapper; first | (rw [if_pos (by decide +kernel)]; kernel_rfl) | (rw [if_neg (by decide +kernel)]; exact ⟨rfl, rfl⟩))
    (fun os started H enc _ => lifted os started H enc)

/-- ████ THE STATEMENT ████ -/
theorem proved : Rows.ExecNilSaid :=
  over
end Go.Proofs.YtgdenjkiblpnpaaGreat.execNil
