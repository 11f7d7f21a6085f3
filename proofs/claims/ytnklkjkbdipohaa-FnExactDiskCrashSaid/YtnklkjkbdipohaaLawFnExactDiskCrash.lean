/- The row of FnExactDiskCrash: whatever the arguments are that can be read, within the form's own reach, the call returns true and the arguments read behind it as they read before; out of the pure statement and the contract of the law's function. -/
import Derived.Test.YtnklkjkbdipohaaRows
import Derived.Test.YtnklkjkbdipohaaPFnExactDiskCrashx13
import Derived.Test.YtnklkjkbdipohaaLibOpen
import Derived.Test.YtnklkjkbdipohaaPureFnExactDiskCrash
import Derived.WalkKit
import Derived.ProofKit
import Derived.OpenShut
import Derived.ShutString
import Derived.ChangeOld
import Derived.Below
import Derived.SizedLaws
namespace Go.Proofs.Ytnklkjkbdipohaa.fnExactDiskCrash
open Go.ChangeShapes Go.WideShapes Go.ChangeAt Go.RowKit Go.Proofs.YtnklkjkbdipohaaW.PrintWords Go.Proofs.Ytnklkjkbdipohaa.Open Go.Proofs.Ytnklkjkbdipohaa.PFnExactDiskCrash Go.Proofs.Ytnklkjkbdipohaa.Pure
open Go.ChangeMaps (open_string shut_string)
set_option linter.unusedVariables false
set_option linter.unusedSimpArgs false
theorem own : ownKnob Try.prog.godebug = none := by kernel_rfl
theorem laidOut : laidOutB Try.prog = true := by kernel_rfl
theorem o5 : Opens Try.prog 5 (Kd.int .u8) G5 := opens_int Try.underlying5 (by kernel_rfl)
theorem o42 : Opens Try.prog 42 (Kd.slice 5 (Kd.int .u8)) G42 := opens_slice Try.underlying42 (by kernel_rfl) (by kernel_rfl) o5
theorem o162 : Opens Try.prog 162 k162 G162 :=
  (opens_iso (fun x : S162 => x.f0) (fun p => (⟨p⟩ : S162)) (fun _ => rfl) (opens_struct Try.underlying162 (by kernel_rfl) (fs_one o42 (by rfl) (by rfl)))).imp fun _ h => h
theorem o22 : Opens Try.prog 22 (Kd.slice 162 k162) G22 := opens_slice Try.underlying22 (by kernel_rfl) (by kernel_rfl) o162
theorem o3 : Opens Try.prog 3 (Kd.int .i64) G3 := opens_int Try.underlying3 (by kernel_rfl)
theorem o138 : Opens Try.prog 138 k138 G138 :=
  (opens_iso (fun x : S138 => (x.f0, x.f1)) (fun p => (⟨p.1, p.2⟩ : S138)) (fun _ => rfl) (opens_struct Try.underlying138 (by kernel_rfl) (fs_cons o3 (fs_one o42 (by rfl) (by rfl)) (by rfl) (by rfl) (by rfl)))).imp fun _ h => h
theorem o23 : Opens Try.prog 23 (Kd.slice 138 k138) G23 := opens_slice Try.underlying23 (by kernel_rfl) (by kernel_rfl) o138
theorem o25 : Opens Try.prog 25 (Kd.pair (Kd.slice 162 k162) (Kd.slice 138 k138)) G25 :=
  (opens_struct Try.underlying25 (by kernel_rfl) (fs_cons o22 (fs_one o23 (by rfl) (by rfl)) (by rfl) (by rfl) (by rfl))).imp fun _ h => h
theorem o36 : Opens Try.prog 36 (Kd.slice 3 (Kd.int .i64)) G36 := opens_slice Try.underlying36 (by kernel_rfl) (by kernel_rfl) o3
set_option maxRecDepth 100000 in
theorem lifted (os : Os) (started : os.Started) (H : Type) (enc : TypeId × Value → H) :
    ReturnsInHanded {} Try.checked os 4 .any (Rows.fnExactDiskCrashSpec.pre6 enc Try.prog Try.f4 Rows.fnExactDiskCrashRow.domain false) (Rows.fnExactDiskCrashSpec.post enc Try.prog Try.f4 false true false false) := by
  refine returnsInHanded_of_change_sized (C := Try.checked) own started (by kernel_rfl) Try.func4
    (ChangeSpec.witness6 (enc := enc) (C := Try.checked) false ⟨#[], #[.agg #[.slice none 0 0, .slice none 0 0], .slice none 0 0], []⟩ 8 (by kernel_rfl) (by kernel_rfl) (by kernel_rfl) (by kernel_rfl)) ?_
  intro W base args ds gs before hval0 hW hcnd hsz0 _
  have hsz : (DataW.weightsEach Try.prog (Try.f4.params.toList ++ Rows.fnExactDiskCrashSpec.plain.varTypes Try.prog) (ds ++ gs)).all (· ≤ reachBytes) = true := hsz0
  have hval : ∀ (j : Nat) t v, Try.f4.params[j]? = some t → args[j]? = some v → Value.okWide Try.prog W .any base t v := hval0
  have hW' := hW
  obtain ⟨p, q, hA0, hV, rfl, hfz, hnd⟩ := hW
  have hA : DataW.TrodAll enc Try.prog W 0 (fun _ => true) true Try.f4.params.toList args.toList ds p := hA0
  rw [Try.params4] at hA hval hsz
  obtain ⟨v0, vs0, d0, ds0, p0, q0, hargs, rfl, rfl, h0, r0⟩ := trodAll_cons hA
  obtain ⟨v1, vs1, d1, ds1, p1, q1, rfl, rfl, rfl, h1, r1⟩ := trodAll_cons r0
  obtain ⟨rfl, rfl, rfl⟩ := trodAll_nil r1
  obtain rfl : args = #[v0, v1] := by cases args; simp_all
  obtain ⟨rfl, rfl⟩ := trodVars_none hV
  have k0 := h0
  have lt0 : ∀ x ∈ p0, x.block < W.heap.size := by obtain ⟨m, hm⟩ := k0; exact DataW.trod_lt m _ _ _ hm
  obtain ⟨s0, rfl, hs0⟩ := okWide_struct Try.underlying25 (hval 0 25 v0 rfl rfl)
  obtain ⟨L0, rfl⟩ : ∃ L : List Value, s0 = L.toArray := ⟨s0.toList, by simp⟩
  obtain ⟨⟨x0_0, x0_1⟩, K0, g0⟩ := o25.param h0 hsz (j := 0) rfl rfl
  replace K0 : Kd.K (Kd.pair (Kd.slice 162 k162) (Kd.slice 138 k138)) W _ L0 := K0
  obtain ⟨_, _, rfl, ⟨A0_0, c0_0, rfl, hc0_0, hr0_0⟩, ⟨A0_1, c0_1, rfl, hc0_1, hr0_1⟩⟩ := K0
  have k1 := h1
  have lt1 : ∀ x ∈ p1, x.block < W.heap.size := by obtain ⟨m, hm⟩ := k1; exact DataW.trod_lt m _ _ _ hm
  obtain ⟨A1, n1, c1, rfl⟩ := okWide_slice Try.underlying36 (hval 1 36 v1 rfl rfl)
  obtain ⟨l1, K1, g1⟩ := o36.param h1 hsz (j := 1) rfl rfl
  obtain ⟨rfl, hc1, hr1⟩ := slice_param K1
  clear hA0 hval0 hsz0 hsz
  have hk := Pure.FnExactDiskCrash x0_0 x0_1 g0 l1 g1
  refine (PFnExactDiskCrash.laws_FnExactDiskCrash.calls A0_0 c0_0 x0_0 A0_1 c0_1 x0_1 A1 c1 l1 true W hr0_0 hc0_0 hr0_1 hc0_1 hr1 hc1 ⟨hk, rfl⟩).mono fun e W' ⟨he, bel0⟩ => ?_
  have bel : Below W.heap.size W W' := bel0
  subst he
  exact ⟨_, rfl, _, _, _, [], _, [], hW', trodAll_mk1 (shut_bool Try.underlying4 _), (trodAll_cons_mk (Below.trod laidOut (by kernel_rfl) (of_decide_eq_true (by kernel_rfl)) k0 bel lt0) (trodAll_cons_mk (Below.trod laidOut (by kernel_rfl) (of_decide_eq_true (by kernel_rfl)) k1 bel lt1) trodAll_mk0)), rfl, bel.frame _, fun h => by cases h⟩
theorem over : Rows.fnExactDiskCrashRow.holds Try.pinned (OpenSpec.ofChange Rows.fnExactDiskCrashSpec) :=
  OpenClaim.holds_of_wide 4 Try.f4 rfl rfl rfl rfl rfl rfl rfl ⟨rfl, rfl, rfl, rfl, rfl⟩ rfl rfl rfl rfl rfl (by kernel_rfl) Try.func4 (by kernel_rfl)
    (of_decide_eq_true (by kernel_rfl)) (by unfold Func.isWrapper; first | (rw [if_pos (by decide +kernel)]; kernel_rfl) | (rw [if_neg (by decide +kernel)]; exact ⟨rfl, rfl⟩))
    (fun os started H enc _ => lifted os started H enc)
theorem proved : Rows.FnExactDiskCrashSaid := over
#print axioms proved
end Go.Proofs.Ytnklkjkbdipohaa.fnExactDiskCrash
namespace Go.Proofs.Ytnklkjkbdipohaa
/-- The row, under a short name, for the claim. -/
theorem fnExactDiskCrash_holds : Rows.FnExactDiskCrashSaid := fnExactDiskCrash.proved
end Go.Proofs.Ytnklkjkbdipohaa
