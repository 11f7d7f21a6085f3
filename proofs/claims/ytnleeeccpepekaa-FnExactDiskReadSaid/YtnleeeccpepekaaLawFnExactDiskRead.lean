/- The row of FnExactDiskRead: whatever the arguments are that can be read, within the form's own reach, the call returns true and the arguments read behind it as they read before; out of the pure statement and the contract of the law's function. -/
import Derived.Test.YtnleeeccpepekaaRows
import Derived.Test.YtnleeeccpepekaaPFnExactDiskReadx7
import Derived.Test.YtnleeeccpepekaaLibOpen
import Derived.Test.YtnleeeccpepekaaPureFnExactDiskRead
import Derived.WalkKit
import Derived.ProofKit
import Derived.OpenShut
import Derived.ShutString
import Derived.ChangeOld
import Derived.Below
import Derived.SizedLaws
namespace Go.Proofs.Ytnleeeccpepekaa.fnExactDiskRead
open Go.ChangeShapes Go.WideShapes Go.ChangeAt Go.RowKit Go.Proofs.YtnleeeccpepekaaW.PrintWords Go.Proofs.Ytnleeeccpepekaa.Open Go.Proofs.Ytnleeeccpepekaa.PFnExactDiskRead Go.Proofs.Ytnleeeccpepekaa.Pure
open Go.ChangeMaps (open_string shut_string)
set_option linter.unusedVariables false
set_option linter.unusedSimpArgs false
theorem own : ownKnob Try.prog.godebug = none := by kernel_rfl
theorem laidOut : laidOutB Try.prog = true := by kernel_rfl
theorem o5 : Opens Try.prog 5 (Kd.int .u8) G5 := opens_int Try.underlying5 (by kernel_rfl)
theorem o22 : Opens Try.prog 22 (Kd.slice 5 (Kd.int .u8)) G22 := opens_slice Try.underlying22 (by kernel_rfl) (by kernel_rfl) o5
theorem o143 : Opens Try.prog 143 k143 G143 :=
  (opens_iso (fun x : S143 => x.f0) (fun p => (⟨p⟩ : S143)) (fun _ => rfl) (opens_struct Try.underlying143 (by kernel_rfl) (fs_one o22 (by rfl) (by rfl)))).imp fun _ h => h
theorem o70 : Opens Try.prog 70 (Kd.slice 143 k143) G70 := opens_slice Try.underlying70 (by kernel_rfl) (by kernel_rfl) o143
theorem o3 : Opens Try.prog 3 (Kd.int .i64) G3 := opens_int Try.underlying3 (by kernel_rfl)
theorem o145 : Opens Try.prog 145 k145 G145 :=
  (opens_iso (fun x : S145 => (x.f0, x.f1)) (fun p => (⟨p.1, p.2⟩ : S145)) (fun _ => rfl) (opens_struct Try.underlying145 (by kernel_rfl) (fs_cons o3 (fs_one o22 (by rfl) (by rfl)) (by rfl) (by rfl) (by rfl)))).imp fun _ h => h
theorem o71 : Opens Try.prog 71 (Kd.slice 145 k145) G71 := opens_slice Try.underlying71 (by kernel_rfl) (by kernel_rfl) o145
theorem o73 : Opens Try.prog 73 (Kd.pair (Kd.slice 143 k143) (Kd.slice 145 k145)) G73 :=
  (opens_struct Try.underlying73 (by kernel_rfl) (fs_cons o70 (fs_one o71 (by rfl) (by rfl)) (by rfl) (by rfl) (by rfl))).imp fun _ h => h
set_option maxRecDepth 100000 in
theorem lifted (os : Os) (started : os.Started) (H : Type) (enc : TypeId × Value → H) :
    ReturnsInHanded {} Try.checked os 11 .any (Rows.fnExactDiskReadSpec.pre6 enc Try.prog Try.f11 Rows.fnExactDiskReadRow.domain false) (Rows.fnExactDiskReadSpec.post enc Try.prog Try.f11 false true false false) := by
  refine returnsInHanded_of_change_sized (C := Try.checked) own started (by kernel_rfl) Try.func11
    (ChangeSpec.witness6 (enc := enc) (C := Try.checked) false ⟨#[], #[.agg #[.slice none 0 0, .slice none 0 0], .int .i64 0], []⟩ 8 (by kernel_rfl) (by kernel_rfl) (by kernel_rfl) (by kernel_rfl)) ?_
  intro W base args ds gs before hval0 hW hcnd hsz0 _
  have hsz : (DataW.weightsEach Try.prog (Try.f11.params.toList ++ Rows.fnExactDiskReadSpec.plain.varTypes Try.prog) (ds ++ gs)).all (· ≤ reachBytes) = true := hsz0
  have hval : ∀ (j : Nat) t v, Try.f11.params[j]? = some t → args[j]? = some v → Value.okWide Try.prog W .any base t v := hval0
  have hW' := hW
  obtain ⟨p, q, hA0, hV, rfl, hfz, hnd⟩ := hW
  have hA : DataW.TrodAll enc Try.prog W 0 (fun _ => true) true Try.f11.params.toList args.toList ds p := hA0
  rw [Try.params11] at hA hval hsz
  obtain ⟨v0, vs0, d0, ds0, p0, q0, hargs, rfl, rfl, h0, r0⟩ := trodAll_cons hA
  obtain ⟨v1, vs1, d1, ds1, p1, q1, rfl, rfl, rfl, h1, r1⟩ := trodAll_cons r0
  obtain ⟨rfl, rfl, rfl⟩ := trodAll_nil r1
  obtain rfl : args = #[v0, v1] := by cases args; simp_all
  obtain ⟨rfl, rfl⟩ := trodVars_none hV
  have k0 := h0
  have lt0 : ∀ x ∈ p0, x.block < W.heap.size := by obtain ⟨m, hm⟩ := k0; exact DataW.trod_lt m _ _ _ hm
  obtain ⟨s0, rfl, hs0⟩ := okWide_struct Try.underlying73 (hval 0 73 v0 rfl rfl)
  obtain ⟨L0, rfl⟩ : ∃ L : List Value, s0 = L.toArray := ⟨s0.toList, by simp⟩
  obtain ⟨⟨x0_0, x0_1⟩, K0, g0⟩ := o73.param h0 hsz (j := 0) rfl rfl
  replace K0 : Kd.K (Kd.pair (Kd.slice 143 k143) (Kd.slice 145 k145)) W _ L0 := K0
  obtain ⟨_, _, rfl, ⟨A0_0, c0_0, rfl, hc0_0, hr0_0⟩, ⟨A0_1, c0_1, rfl, hc0_1, hr0_1⟩⟩ := K0
  obtain ⟨a1, rfl, rfl, rfl, w1⟩ := open_int Try.underlying3 (hval 1 3 v1 rfl rfl) h1
  clear hA0 hval0 hsz0 hsz
  obtain ⟨k, hk⟩ := Pure.FnExactDiskRead x0_0 x0_1 g0 a1 w1
  refine (PFnExactDiskRead.laws_FnExactDiskRead.calls k A0_0 c0_0 x0_0 A0_1 c0_1 x0_1 a1 true W hr0_0 hc0_0 hr0_1 hc0_1 hk).mono fun e W' ⟨he, bel0⟩ => ?_
  have bel : Below W.heap.size W W' := bel0
  subst he
  exact ⟨_, rfl, _, _, _, [], _, [], hW', trodAll_mk1 (shut_bool Try.underlying4 _), (trodAll_cons_mk (Below.trod laidOut (by kernel_rfl) (of_decide_eq_true (by kernel_rfl)) k0 bel lt0) (trodAll_cons_mk (shut_int Try.underlying3 w1) trodAll_mk0)), rfl, bel.frame _, fun h => by cases h⟩
theorem over : Rows.fnExactDiskReadRow.holds Try.pinned (OpenSpec.ofChange Rows.fnExactDiskReadSpec) :=
  OpenClaim.holds_of_wide 11 Try.f11 rfl rfl rfl rfl rfl rfl rfl ⟨rfl, rfl, rfl, rfl, rfl⟩ rfl rfl rfl rfl rfl (by kernel_rfl) Try.func11 (by kernel_rfl)
    (of_decide_eq_true (by kernel_rfl)) (by unfold Func.isWrapper; first | (rw [if_pos (by decide +kernel)]; kernel_rfl) | (rw [if_neg (by decide +kernel)]; exact ⟨rfl, rfl⟩))
    (fun os started H enc _ => lifted os started H enc)
theorem proved : Rows.FnExactDiskReadSaid := over
#print axioms proved
end Go.Proofs.Ytnleeeccpepekaa.fnExactDiskRead
namespace Go.Proofs.Ytnleeeccpepekaa
/-- The row, under a short name, for the claim. -/
theorem fnExactDiskRead_holds : Rows.FnExactDiskReadSaid := fnExactDiskRead.proved
end Go.Proofs.Ytnleeeccpepekaa
