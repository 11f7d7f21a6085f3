/- The row of FnExactRangeIn: whatever the arguments are that can be read, within the form's own reach, the call returns true and the arguments read behind it as they read before; out of the pure statement and the contract of the law's function. -/
import Derived.Test.YtamipehbndckcaaRows
import Derived.Test.YtamipehbndckcaaPFnExactRangeInx2
import Derived.Test.YtamipehbndckcaaLibOpen
import Derived.Test.YtamipehbndckcaaPureFnExactRangeIn
import Derived.WalkKit
import Derived.ProofKit
import Derived.OpenShut
import Derived.ShutString
import Derived.ChangeOld
import Derived.Below
import Derived.SizedLaws
namespace Go.Proofs.Ytamipehbndckcaa.fnExactRangeIn
open Go.ChangeShapes Go.WideShapes Go.ChangeAt Go.RowKit Go.Proofs.YtamipehbndckcaaW.PrintWords Go.Proofs.Ytamipehbndckcaa.Open Go.Proofs.Ytamipehbndckcaa.PFnExactRangeIn Go.Proofs.Ytamipehbndckcaa.Pure
open Go.ChangeMaps (open_string shut_string)
set_option linter.unusedVariables false
set_option linter.unusedSimpArgs false
theorem own : ownKnob Try.prog.godebug = none := by kernel_rfl
theorem laidOut : laidOutB Try.prog = true := by kernel_rfl
theorem o9 : Opens Try.prog 9 Kd.string G9 := opens_string Try.underlying9 (by kernel_rfl)
theorem o36 : Opens Try.prog 36 (Kd.pair Kd.string Kd.string) G36 :=
  (opens_struct Try.underlying36 (by kernel_rfl) (fs_cons o9 (fs_one o9 (by rfl) (by rfl)) (by rfl) (by rfl) (by rfl))).imp fun _ h => h
set_option maxRecDepth 100000 in
theorem lifted (os : Os) (started : os.Started) (H : Type) (enc : TypeId × Value → H) :
    ReturnsInHanded {} Try.checked os 10 .any (Rows.fnExactRangeInSpec.pre6 enc Try.prog Try.f10 Rows.fnExactRangeInRow.domain false) (Rows.fnExactRangeInSpec.post enc Try.prog Try.f10 false true false false) := by
  refine returnsInHanded_of_change_sized (C := Try.checked) own started (by kernel_rfl) Try.func10
    (ChangeSpec.witness6 (enc := enc) (C := Try.checked) false ⟨#[], #[.agg #[.string ByteArray.empty, .string ByteArray.empty], .agg #[.string ByteArray.empty, .string ByteArray.empty]], []⟩ 8 (by kernel_rfl) (by kernel_rfl) (by kernel_rfl) (by kernel_rfl)) ?_
  intro W base args ds gs before hval0 hW hcnd hsz0 _
  have hsz : (DataW.weightsEach Try.prog (Try.f10.params.toList ++ Rows.fnExactRangeInSpec.plain.varTypes Try.prog) (ds ++ gs)).all (· ≤ reachBytes) = true := hsz0
  have hval : ∀ (j : Nat) t v, Try.f10.params[j]? = some t → args[j]? = some v → Value.okWide Try.prog W .any base t v := hval0
  have hW' := hW
  obtain ⟨p, q, hA0, hV, rfl, hfz, hnd⟩ := hW
  have hA : DataW.TrodAll enc Try.prog W 0 (fun _ => true) true Try.f10.params.toList args.toList ds p := hA0
  rw [Try.params10] at hA hval hsz
  obtain ⟨v0, vs0, d0, ds0, p0, q0, hargs, rfl, rfl, h0, r0⟩ := trodAll_cons hA
  obtain ⟨v1, vs1, d1, ds1, p1, q1, rfl, rfl, rfl, h1, r1⟩ := trodAll_cons r0
  obtain ⟨rfl, rfl, rfl⟩ := trodAll_nil r1
  obtain rfl : args = #[v0, v1] := by cases args; simp_all
  obtain ⟨rfl, rfl⟩ := trodVars_none hV
  have k0 := h0
  have lt0 : ∀ x ∈ p0, x.block < W.heap.size := by obtain ⟨m, hm⟩ := k0; exact DataW.trod_lt m _ _ _ hm
  obtain ⟨s0, rfl, hs0⟩ := okWide_struct Try.underlying36 (hval 0 36 v0 rfl rfl)
  obtain ⟨L0, rfl⟩ : ∃ L : List Value, s0 = L.toArray := ⟨s0.toList, by simp⟩
  obtain ⟨⟨x0_0, x0_1⟩, K0, g0⟩ := o36.param h0 hsz (j := 0) rfl rfl
  replace K0 : Kd.K (Kd.pair Kd.string Kd.string) W _ L0 := K0
  obtain ⟨_, _, rfl, rfl, rfl⟩ := K0
  have k1 := h1
  have lt1 : ∀ x ∈ p1, x.block < W.heap.size := by obtain ⟨m, hm⟩ := k1; exact DataW.trod_lt m _ _ _ hm
  obtain ⟨s1, rfl, hs1⟩ := okWide_struct Try.underlying36 (hval 1 36 v1 rfl rfl)
  obtain ⟨L1, rfl⟩ : ∃ L : List Value, s1 = L.toArray := ⟨s1.toList, by simp⟩
  obtain ⟨⟨x1_0, x1_1⟩, K1, g1⟩ := o36.param h1 hsz (j := 1) rfl rfl
  replace K1 : Kd.K (Kd.pair Kd.string Kd.string) W _ L1 := K1
  obtain ⟨_, _, rfl, rfl, rfl⟩ := K1
  clear hA0 hval0 hsz0 hsz
  have hk := Pure.FnExactRangeIn x0_0 x0_1 g0 x1_0 x1_1 g1
  refine (PFnExactRangeIn.laws_FnExactRangeIn.calls x0_0 x0_1 x1_0 x1_1 true W  hk).mono fun e W' ⟨he, bel0⟩ => ?_
  have bel : Below W.heap.size W W' := bel0
  subst he
  exact ⟨_, rfl, _, _, _, [], _, [], hW', trodAll_mk1 (shut_bool Try.underlying4 _), (trodAll_cons_mk (Below.trod laidOut (by kernel_rfl) (of_decide_eq_true (by kernel_rfl)) k0 bel lt0) (trodAll_cons_mk (Below.trod laidOut (by kernel_rfl) (of_decide_eq_true (by kernel_rfl)) k1 bel lt1) trodAll_mk0)), rfl, bel.frame _, fun h => by cases h⟩
theorem over : Rows.fnExactRangeInRow.holds Try.pinned (OpenSpec.ofChange Rows.fnExactRangeInSpec) :=
  OpenClaim.holds_of_wide 10 Try.f10 rfl rfl rfl rfl rfl rfl rfl ⟨rfl, rfl, rfl, rfl, rfl⟩ rfl rfl rfl rfl rfl (by kernel_rfl) Try.func10 (by kernel_rfl)
    (of_decide_eq_true (by kernel_rfl)) (by unfold Func.isWrapper; first | (rw [if_pos (by decide +kernel)]; kernel_rfl) | (rw [if_neg (by decide +kernel)]; exact ⟨rfl, rfl⟩))
    (fun os started H enc _ => lifted os started H enc)
theorem proved : Rows.FnExactRangeInSaid := over
#print axioms proved
end Go.Proofs.Ytamipehbndckcaa.fnExactRangeIn
namespace Go.Proofs.Ytamipehbndckcaa
/-- The row, under a short name, for the claim. -/
theorem fnExactRangeIn_holds : Rows.FnExactRangeInSaid := fnExactRangeIn.proved
end Go.Proofs.Ytamipehbndckcaa
