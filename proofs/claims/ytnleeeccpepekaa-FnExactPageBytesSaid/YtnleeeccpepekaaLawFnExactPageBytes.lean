/- The row of FnExactPageBytes: whatever the arguments are that can be read, within the form's own reach, the call returns true and the arguments read behind it as they read before; out of the pure statement and the contract of the law's function. -/
import Derived.Test.YtnleeeccpepekaaRows
import Derived.Test.YtnleeeccpepekaaPFnExactPageBytesx8
import Derived.Test.YtnleeeccpepekaaLibOpen
import Derived.Test.YtnleeeccpepekaaPureFnExactPageBytes
import Derived.WalkKit
import Derived.ProofKit
import Derived.OpenShut
import Derived.ShutString
import Derived.ChangeOld
import Derived.Below
import Derived.SizedLaws
namespace Go.Proofs.Ytnleeeccpepekaa.fnExactPageBytes
open Go.ChangeShapes Go.WideShapes Go.ChangeAt Go.RowKit Go.Proofs.YtnleeeccpepekaaW.PrintWords Go.Proofs.Ytnleeeccpepekaa.Open Go.Proofs.Ytnleeeccpepekaa.PFnExactPageBytes Go.Proofs.Ytnleeeccpepekaa.Pure
open Go.ChangeMaps (open_string shut_string)
set_option linter.unusedVariables false
set_option linter.unusedSimpArgs false
theorem own : ownKnob Try.prog.godebug = none := by kernel_rfl
theorem laidOut : laidOutB Try.prog = true := by kernel_rfl
theorem o9 : Opens Try.prog 9 Kd.string G9 := opens_string Try.underlying9 (by kernel_rfl)
theorem o40 : Opens Try.prog 40 (Kd.slice 9 Kd.string) G40 := opens_slice Try.underlying40 (by kernel_rfl) (by kernel_rfl) o9
theorem o3 : Opens Try.prog 3 (Kd.int .i64) G3 := opens_int Try.underlying3 (by kernel_rfl)
theorem o41 : Opens Try.prog 41 (Kd.slice 3 (Kd.int .i64)) G41 := opens_slice Try.underlying41 (by kernel_rfl) (by kernel_rfl) o3
theorem o43 : Opens Try.prog 43 (Kd.pair (Kd.slice 9 Kd.string) (Kd.pair (Kd.slice 9 Kd.string) (Kd.slice 3 (Kd.int .i64)))) G43 :=
  (opens_struct Try.underlying43 (by kernel_rfl) (fs_cons o40 (fs_cons o40 (fs_one o41 (by rfl) (by rfl)) (by rfl) (by rfl) (by rfl)) (by rfl) (by rfl) (by rfl))).imp fun _ h => h
set_option maxRecDepth 100000 in
theorem lifted (os : Os) (started : os.Started) (H : Type) (enc : TypeId × Value → H) :
    ReturnsInHanded {} Try.checked os 12 .any (Rows.fnExactPageBytesSpec.pre6 enc Try.prog Try.f12 Rows.fnExactPageBytesRow.domain false) (Rows.fnExactPageBytesSpec.post enc Try.prog Try.f12 false true false false) := by
  refine returnsInHanded_of_change_sized (C := Try.checked) own started (by kernel_rfl) Try.func12
    (ChangeSpec.witness6 (enc := enc) (C := Try.checked) false ⟨#[], #[.agg #[.slice none 0 0, .slice none 0 0, .slice none 0 0]], []⟩ 8 (by kernel_rfl) (by kernel_rfl) (by kernel_rfl) (by kernel_rfl)) ?_
  intro W base args ds gs before hval0 hW hcnd hsz0 _
  have hsz : (DataW.weightsEach Try.prog (Try.f12.params.toList ++ Rows.fnExactPageBytesSpec.plain.varTypes Try.prog) (ds ++ gs)).all (· ≤ reachBytes) = true := hsz0
  have hval : ∀ (j : Nat) t v, Try.f12.params[j]? = some t → args[j]? = some v → Value.okWide Try.prog W .any base t v := hval0
  have hW' := hW
  obtain ⟨p, q, hA0, hV, rfl, hfz, hnd⟩ := hW
  have hA : DataW.TrodAll enc Try.prog W 0 (fun _ => true) true Try.f12.params.toList args.toList ds p := hA0
  rw [Try.params12] at hA hval hsz
  obtain ⟨v0, vs0, d0, ds0, p0, q0, hargs, rfl, rfl, h0, r0⟩ := trodAll_cons hA
  obtain ⟨rfl, rfl, rfl⟩ := trodAll_nil r0
  obtain rfl : args = #[v0] := by cases args; simp_all
  obtain ⟨rfl, rfl⟩ := trodVars_none hV
  have k0 := h0
  have lt0 : ∀ x ∈ p0, x.block < W.heap.size := by obtain ⟨m, hm⟩ := k0; exact DataW.trod_lt m _ _ _ hm
  obtain ⟨s0, rfl, hs0⟩ := okWide_struct Try.underlying43 (hval 0 43 v0 rfl rfl)
  obtain ⟨L0, rfl⟩ : ∃ L : List Value, s0 = L.toArray := ⟨s0.toList, by simp⟩
  obtain ⟨⟨x0_0, x0_1, x0_2⟩, K0, g0⟩ := o43.param h0 hsz (j := 0) rfl rfl
  replace K0 : Kd.K (Kd.pair (Kd.slice 9 Kd.string) (Kd.pair (Kd.slice 9 Kd.string) (Kd.slice 3 (Kd.int .i64)))) W _ L0 := K0
  obtain ⟨_, _, rfl, ⟨A0_0, c0_0, rfl, hc0_0, hr0_0⟩, ⟨_, _, rfl, ⟨A0_1, c0_1, rfl, hc0_1, hr0_1⟩, ⟨A0_2, c0_2, rfl, hc0_2, hr0_2⟩⟩⟩ := K0
  clear hA0 hval0 hsz0 hsz
  obtain ⟨k, hk⟩ := Pure.FnExactPageBytes x0_0 x0_1 x0_2 g0
  refine (PFnExactPageBytes.laws_FnExactPageBytes.calls k A0_0 c0_0 x0_0 A0_1 c0_1 x0_1 A0_2 c0_2 x0_2 true W hr0_0 hc0_0 hr0_1 hc0_1 hr0_2 hc0_2 hk).mono fun e W' ⟨he, bel0⟩ => ?_
  have bel : Below W.heap.size W W' := bel0
  subst he
  exact ⟨_, rfl, _, _, _, [], _, [], hW', trodAll_mk1 (shut_bool Try.underlying4 _), (trodAll_cons_mk (Below.trod laidOut (by kernel_rfl) (of_decide_eq_true (by kernel_rfl)) k0 bel lt0) trodAll_mk0), rfl, bel.frame _, fun h => by cases h⟩
theorem over : Rows.fnExactPageBytesRow.holds Try.pinned (OpenSpec.ofChange Rows.fnExactPageBytesSpec) :=
  OpenClaim.holds_of_wide 12 Try.f12 rfl rfl rfl rfl rfl rfl rfl ⟨rfl, rfl, rfl, rfl, rfl⟩ rfl rfl rfl rfl rfl (by kernel_rfl) Try.func12 (by kernel_rfl)
    (of_decide_eq_true (by kernel_rfl)) (by unfold Func.isWrapper; first | (rw [if_pos (by decide +kernel)]; kernel_rfl) | (rw [if_neg (by decide +kernel)]; exact ⟨rfl, rfl⟩))
    (fun os started H enc _ => lifted os started H enc)
theorem proved : Rows.FnExactPageBytesSaid := over
#print axioms proved
end Go.Proofs.Ytnleeeccpepekaa.fnExactPageBytes
namespace Go.Proofs.Ytnleeeccpepekaa
/-- The row, under a short name, for the claim. -/
theorem fnExactPageBytes_holds : Rows.FnExactPageBytesSaid := fnExactPageBytes.proved
end Go.Proofs.Ytnleeeccpepekaa
