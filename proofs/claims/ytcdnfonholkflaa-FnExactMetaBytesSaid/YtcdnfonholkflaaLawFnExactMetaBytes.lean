/- The row of FnExactMetaBytes: whatever the arguments are that can be read, within the form's own reach, the call returns true and the arguments read behind it as they read before; out of the pure statement and the contract of the law's function. -/
import Derived.Test.YtcdnfonholkflaaRows
import Derived.Test.YtcdnfonholkflaaPFnExactMetaBytesx2
import Derived.Test.YtcdnfonholkflaaLibOpen
import Derived.Test.YtcdnfonholkflaaPureFnExactMetaBytes
import Derived.WalkKit
import Derived.ProofKit
import Derived.OpenShut
import Derived.ShutString
import Derived.ChangeOld
import Derived.Below
import Derived.SizedLaws
namespace Go.Proofs.Ytcdnfonholkflaa.fnExactMetaBytes
open Go.ChangeShapes Go.WideShapes Go.ChangeAt Go.RowKit Go.Proofs.YtcdnfonholkflaaW.PrintWords Go.Proofs.Ytcdnfonholkflaa.Open Go.Proofs.Ytcdnfonholkflaa.PFnExactMetaBytes Go.Proofs.Ytcdnfonholkflaa.Pure
open Go.ChangeMaps (open_string shut_string)
set_option linter.unusedVariables false
set_option linter.unusedSimpArgs false
theorem own : ownKnob Try.prog.godebug = none := by kernel_rfl
theorem laidOut : laidOutB Try.prog = true := by kernel_rfl
theorem o3 : Opens Try.prog 3 (Kd.int .i64) G3 := opens_int Try.underlying3 (by kernel_rfl)
theorem o59 : Opens Try.prog 59 (Kd.pair (Kd.int .i64) (Kd.int .i64)) G59 :=
  (opens_struct Try.underlying59 (by kernel_rfl) (fs_cons o3 (fs_one o3 (by rfl) (by rfl)) (by rfl) (by rfl) (by rfl))).imp fun _ h => h
set_option maxRecDepth 100000 in
theorem lifted (os : Os) (started : os.Started) (H : Type) (enc : TypeId × Value → H) :
    ReturnsInHanded {} Try.checked os 10 .any (Rows.fnExactMetaBytesSpec.pre6 enc Try.prog Try.f10 Rows.fnExactMetaBytesRow.domain false) (Rows.fnExactMetaBytesSpec.post enc Try.prog Try.f10 false true false false) := by
  refine returnsInHanded_of_change_sized (C := Try.checked) own started (by kernel_rfl) Try.func10
    (ChangeSpec.witness6 (enc := enc) (C := Try.checked) false ⟨#[], #[.agg #[.int .i64 0, .int .i64 0]], []⟩ 8 (by kernel_rfl) (by kernel_rfl) (by kernel_rfl) (by kernel_rfl)) ?_
  intro W base args ds gs before hval0 hW hcnd hsz0 _
  have hsz : (DataW.weightsEach Try.prog (Try.f10.params.toList ++ Rows.fnExactMetaBytesSpec.plain.varTypes Try.prog) (ds ++ gs)).all (· ≤ reachBytes) = true := hsz0
  have hval : ∀ (j : Nat) t v, Try.f10.params[j]? = some t → args[j]? = some v → Value.okWide Try.prog W .any base t v := hval0
  have hW' := hW
  obtain ⟨p, q, hA0, hV, rfl, hfz, hnd⟩ := hW
  have hA : DataW.TrodAll enc Try.prog W 0 (fun _ => true) true Try.f10.params.toList args.toList ds p := hA0
  rw [Try.params10] at hA hval hsz
  obtain ⟨v0, vs0, d0, ds0, p0, q0, hargs, rfl, rfl, h0, r0⟩ := trodAll_cons hA
  obtain ⟨rfl, rfl, rfl⟩ := trodAll_nil r0
  obtain rfl : args = #[v0] := by cases args; simp_all
  obtain ⟨rfl, rfl⟩ := trodVars_none hV
  have k0 := h0
  have lt0 : ∀ x ∈ p0, x.block < W.heap.size := by obtain ⟨m, hm⟩ := k0; exact DataW.trod_lt m _ _ _ hm
  obtain ⟨s0, rfl, hs0⟩ := okWide_struct Try.underlying59 (hval 0 59 v0 rfl rfl)
  obtain ⟨L0, rfl⟩ : ∃ L : List Value, s0 = L.toArray := ⟨s0.toList, by simp⟩
  obtain ⟨⟨x0_0, x0_1⟩, K0, g0⟩ := o59.param h0 hsz (j := 0) rfl rfl
  replace K0 : Kd.K (Kd.pair (Kd.int .i64) (Kd.int .i64)) W _ L0 := K0
  obtain ⟨_, _, rfl, rfl, rfl⟩ := K0
  clear hA0 hval0 hsz0 hsz
  obtain ⟨k, hk⟩ := Pure.FnExactMetaBytes x0_0 x0_1 g0
  refine (PFnExactMetaBytes.laws_FnExactMetaBytes.calls k x0_0 x0_1 true W  hk).mono fun e W' ⟨he, bel0⟩ => ?_
  have bel : Below W.heap.size W W' := bel0
  subst he
  exact ⟨_, rfl, _, _, _, [], _, [], hW', trodAll_mk1 (shut_bool Try.underlying4 _), (trodAll_cons_mk (Below.trod laidOut (by kernel_rfl) (of_decide_eq_true (by kernel_rfl)) k0 bel lt0) trodAll_mk0), rfl, bel.frame _, fun h => by cases h⟩
theorem over : Rows.fnExactMetaBytesRow.holds Try.pinned (OpenSpec.ofChange Rows.fnExactMetaBytesSpec) :=
  OpenClaim.holds_of_wide 10 Try.f10 rfl rfl rfl rfl rfl rfl rfl ⟨rfl, rfl, rfl, rfl, rfl⟩ rfl rfl rfl rfl rfl (by kernel_rfl) Try.func10 (by kernel_rfl)
    (of_decide_eq_true (by kernel_rfl)) (by unfold Func.isWrapper; first | (rw [if_pos (by decide +kernel)]; kernel_rfl) | (rw [if_neg (by decide +kernel)]; exact ⟨rfl, rfl⟩))
    (fun os started H enc _ => lifted os started H enc)
theorem proved : Rows.FnExactMetaBytesSaid := over
#print axioms proved
end Go.Proofs.Ytcdnfonholkflaa.fnExactMetaBytes
namespace Go.Proofs.Ytcdnfonholkflaa
/-- The row, under a short name, for the claim. -/
theorem fnExactMetaBytes_holds : Rows.FnExactMetaBytesSaid := fnExactMetaBytes.proved
end Go.Proofs.Ytcdnfonholkflaa
