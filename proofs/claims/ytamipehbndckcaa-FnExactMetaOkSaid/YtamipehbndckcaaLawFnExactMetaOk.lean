/- The row of FnExactMetaOk: whatever the arguments are that can be read, within the form's own reach, the call returns true and the arguments read behind it as they read before; out of the pure statement and the contract of the law's function. -/
import Derived.Test.YtamipehbndckcaaRows
import Derived.Test.YtamipehbndckcaaPFnExactMetaOkx1
import Derived.Test.YtamipehbndckcaaLibOpen
import Derived.Test.YtamipehbndckcaaPureFnExactMetaOk
import Derived.WalkKit
import Derived.ProofKit
import Derived.OpenShut
import Derived.ShutString
import Derived.ChangeOld
import Derived.Below
import Derived.SizedLaws
namespace Go.Proofs.Ytamipehbndckcaa.fnExactMetaOk
open Go.ChangeShapes Go.WideShapes Go.ChangeAt Go.RowKit Go.Proofs.YtamipehbndckcaaW.PrintWords Go.Proofs.Ytamipehbndckcaa.Open Go.Proofs.Ytamipehbndckcaa.PFnExactMetaOk Go.Proofs.Ytamipehbndckcaa.Pure
open Go.ChangeMaps (open_string shut_string)
set_option linter.unusedVariables false
set_option linter.unusedSimpArgs false
theorem own : ownKnob Try.prog.godebug = none := by kernel_rfl
theorem laidOut : laidOutB Try.prog = true := by kernel_rfl
theorem o3 : Opens Try.prog 3 (Kd.int .i64) G3 := opens_int Try.underlying3 (by kernel_rfl)
theorem o25 : Opens Try.prog 25 (Kd.pair (Kd.int .i64) (Kd.int .i64)) G25 :=
  (opens_struct Try.underlying25 (by kernel_rfl) (fs_cons o3 (fs_one o3 (by rfl) (by rfl)) (by rfl) (by rfl) (by rfl))).imp fun _ h => h
set_option maxRecDepth 100000 in
theorem lifted (os : Os) (started : os.Started) (H : Type) (enc : TypeId × Value → H) :
    ReturnsInHanded {} Try.checked os 6 .any (Rows.fnExactMetaOkSpec.pre6 enc Try.prog Try.f6 Rows.fnExactMetaOkRow.domain false) (Rows.fnExactMetaOkSpec.post enc Try.prog Try.f6 false true false false) := by
  refine returnsInHanded_of_change_sized (C := Try.checked) own started (by kernel_rfl) Try.func6
    (ChangeSpec.witness6 (enc := enc) (C := Try.checked) false ⟨#[], #[.agg #[.int .i64 0, .int .i64 0]], []⟩ 8 (by kernel_rfl) (by kernel_rfl) (by kernel_rfl) (by kernel_rfl)) ?_
  intro W base args ds gs before hval0 hW hcnd hsz0 _
  have hsz : (DataW.weightsEach Try.prog (Try.f6.params.toList ++ Rows.fnExactMetaOkSpec.plain.varTypes Try.prog) (ds ++ gs)).all (· ≤ reachBytes) = true := hsz0
  have hval : ∀ (j : Nat) t v, Try.f6.params[j]? = some t → args[j]? = some v → Value.okWide Try.prog W .any base t v := hval0
  have hW' := hW
  obtain ⟨p, q, hA0, hV, rfl, hfz, hnd⟩ := hW
  have hA : DataW.TrodAll enc Try.prog W 0 (fun _ => true) true Try.f6.params.toList args.toList ds p := hA0
  rw [Try.params6] at hA hval hsz
  obtain ⟨v0, vs0, d0, ds0, p0, q0, hargs, rfl, rfl, h0, r0⟩ := trodAll_cons hA
  obtain ⟨rfl, rfl, rfl⟩ := trodAll_nil r0
  obtain rfl : args = #[v0] := by cases args; simp_all
  obtain ⟨rfl, rfl⟩ := trodVars_none hV
  have k0 := h0
  have lt0 : ∀ x ∈ p0, x.block < W.heap.size := by obtain ⟨m, hm⟩ := k0; exact DataW.trod_lt m _ _ _ hm
  obtain ⟨s0, rfl, hs0⟩ := okWide_struct Try.underlying25 (hval 0 25 v0 rfl rfl)
  obtain ⟨L0, rfl⟩ : ∃ L : List Value, s0 = L.toArray := ⟨s0.toList, by simp⟩
  obtain ⟨⟨x0_0, x0_1⟩, K0, g0⟩ := o25.param h0 hsz (j := 0) rfl rfl
  replace K0 : Kd.K (Kd.pair (Kd.int .i64) (Kd.int .i64)) W _ L0 := K0
  obtain ⟨_, _, rfl, rfl, rfl⟩ := K0
  clear hA0 hval0 hsz0 hsz
  have hk := Pure.FnExactMetaOk x0_0 x0_1 g0
  refine (PFnExactMetaOk.laws_FnExactMetaOk.calls x0_0 x0_1 true W  hk).mono fun e W' ⟨he, bel0⟩ => ?_
  have bel : Below W.heap.size W W' := bel0
  subst he
  exact ⟨_, rfl, _, _, _, [], _, [], hW', trodAll_mk1 (shut_bool Try.underlying4 _), (trodAll_cons_mk (Below.trod laidOut (by kernel_rfl) (of_decide_eq_true (by kernel_rfl)) k0 bel lt0) trodAll_mk0), rfl, bel.frame _, fun h => by cases h⟩
theorem over : Rows.fnExactMetaOkRow.holds Try.pinned (OpenSpec.ofChange Rows.fnExactMetaOkSpec) :=
  OpenClaim.holds_of_wide 6 Try.f6 rfl rfl rfl rfl rfl rfl rfl ⟨rfl, rfl, rfl, rfl, rfl⟩ rfl rfl rfl rfl rfl (by kernel_rfl) Try.func6 (by kernel_rfl)
    (of_decide_eq_true (by kernel_rfl)) (by unfold Func.isWrapper; first | (rw [if_pos (by decide +kernel)]; kernel_rfl) | (rw [if_neg (by decide +kernel)]; exact ⟨rfl, rfl⟩))
    (fun os started H enc _ => lifted os started H enc)
theorem proved : Rows.FnExactMetaOkSaid := over
#print axioms proved
end Go.Proofs.Ytamipehbndckcaa.fnExactMetaOk
namespace Go.Proofs.Ytamipehbndckcaa
/-- The row, under a short name, for the claim. -/
theorem fnExactMetaOk_holds : Rows.FnExactMetaOkSaid := fnExactMetaOk.proved
end Go.Proofs.Ytamipehbndckcaa
