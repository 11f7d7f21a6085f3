/- The law on DiskWrite, walked. -/
import Derived.Test.YtnnmpdanfeejbaaAbsLd
namespace Go.Proofs.Ytnnmpdanfeejbaa.Abs
open Go Go.Proofs
set_option maxRecDepth 10000
set_option linter.unusedVariables false
set_option linter.unusedSimpArgs false
theorem sumL_app {α : Type} (f : α → Nat) (a b : List α) : sumL f (a ++ b) = sumL f a + sumL f b := by simp [sumL]
theorem Dk.cnt_eq (d : Dk) : d.cnt = sumL List.length d.sh + (sumL (fun x => x.2.length) d.wr + d.wr.length) := by
  have : ∀ l : List (Int × List UInt8), sumL cntW l = sumL (fun x => x.2.length) l + l.length := by
    intro l
    induction l with
    | nil => rfl
    | cons x r ih => simp only [sumL_cons, ih, cntW, List.length_cons]; omega
  rw [Dk.cnt, this]
theorem Dk.write_size (d : Dk) (a : Int) (b : List UInt8) : (d.write a b).1.size ≤ d.size + b.length + 1 := by
  unfold Dk.write
  split
  · simp only [Dk.size, sumL_app, List.length_append, sumL_cons, sumL_nil, List.length_cons, List.length_nil]; omega
  · simp [Dk.size, sumL_nil]
theorem Dk.cnt_le (d : Dk) : d.cnt ≤ d.size := by rw [d.cnt_eq, Dk.size]; omega
theorem Dk.lens (d : Dk) : d.sh.length ≤ d.size ∧ d.wr.length ≤ d.size := by unfold Dk.size; omega
theorem rs_ow (d : Dk) {m : Nat} (h : 2 ≤ m) : Rs true m d.ow := .ag _ (by intro c hc; simp at hc; rcases hc with rfl | rfl; exact .sl 1 _ (by omega) (by omega); exact .sl 2 _ (by omega) h)
theorem rso_ow (d : Dk) {m : Nat} : ∀ ob, some ob ∈ d.obs.map some → RsOb true m ob := by
  intro ob h
  simp [Dk.obs] at h
  rcases h with rfl | rfl
  · exact .inr (own_sh _)
  · exact .inr (own_wr _)
theorem lawDiskWrite_ok (d : Dk) (a : Int) (b : List UInt8) (hd : d.fits (2^47)) (hb : b.length ≤ 2^47) : CallOk Try.prog 3 [] [d.rd, In a, Rw (eB b)] (fun r out => r = Bo true ∧ out = []) := by
  unfold Dk.rd
  refine callOk_z (np := 0) ⟨[], []⟩ mixed Try.func3 (by rfl) Try.ntmps3 Try.results3 (by rfl) (Nat.le_of_ble_eq_true rfl) rfl rfl rfl (vc ?_)
  refine brB_intro (fun h => EndQ.closed (.v _) ⟨rfl, rfl⟩) (fun h => ?_)
  have hb2 : b.length ≤ 2^20 := by simp at h; omega
  refine callq_of false [] (szDisk_ok d 1048576 hd (by omega)) rfl trivial (by unfold Dk.rd; exact vc trivial) ?_
  rintro r out ⟨rfl, rfl⟩
  refine ⟨by simp, by simp, by simp, vc ?_⟩
  have hc := szB_cases d.size 1048576
  refine brB_intro (fun h => EndQ.closed (.v _) ⟨rfl, rfl⟩) (fun h => ?_)
  have hs : d.size ≤ 2^20 := by
    have h : ¬ szB d.size 1048576 < 0 := by simpa using h
    omega
  have hf : d.fits (2^40) := Dk.fits_of (by omega)
  have hw := d.write_size a b
  generalize hW : d.write a b = R
  obtain ⟨R1, R2⟩ := R
  rw [hW] at hw
  have hw : R1.size ≤ d.size + b.length + 1 := hw
  have hfR : R1.fits (2^40) := Dk.fits_of (by omega)
  refine callq_of false [] (toDisk_ok d hf) rfl trivial (by unfold Dk.rd; exact vc trivial) ?_
  rintro r out ⟨rfl, rfl⟩
  refine ⟨by simp, by simp [Dk.obs], by simp, ?_⟩
  unfold Dk.ow Dk.obs
  refine vc ?_
  refine callq_of false [] (toByteS_ok b (by omega)) rfl trivial (vc trivial) ?_
  rintro r out ⟨rfl, rfl⟩
  refine ⟨by simp, by simp, by simp, vc ?_⟩
  have hspec := specDiskWrite_ok d hf a b (by omega)
  have himpl := implDiskWrite_ok d hf a b (by omega)
  rw [hW] at hspec himpl
  unfold Dk.rd at hspec himpl
  refine callq_of true [] hspec rfl trivial (vc trivial) ?_
  rintro r out ⟨rfl, rfl⟩
  refine ⟨by simp, by simp [Dk.obs], fun _ => ⟨.tu _ (by intro c hc; simp at hc; rcases hc with rfl | rfl; exact rs_ow _ (by simp [Dk.obs]); exact .v _), rso_ow _⟩, ?_⟩
  unfold Dk.ow Dk.obs
  refine vc ?_
  refine callq_of false [] (toDisk_ok d hf) rfl trivial (by unfold Dk.rd; exact vc trivial) ?_
  rintro r out ⟨rfl, rfl⟩
  refine ⟨by simp, by simp [Dk.obs], by simp, ?_⟩
  unfold Dk.ow Dk.obs
  refine vc ?_
  refine callq_of false [] (toByteS_ok b (by omega)) rfl trivial (vc trivial) ?_
  rintro r out ⟨rfl, rfl⟩
  refine ⟨by simp, by simp, by simp, vc ?_⟩
  refine callq_of true [] himpl rfl trivial (vc trivial) ?_
  rintro r out ⟨rfl, rfl⟩
  refine ⟨by simp, by simp [Dk.obs], fun _ => ⟨.tu _ (by intro c hc; simp at hc; rcases hc with rfl | rfl; exact rs_ow _ (by simp [Dk.obs]); exact .v _), rso_ow _⟩, ?_⟩
  unfold Dk.ow Dk.obs
  refine vc ?_
  refine callq_of true [] (eqDisk_ok R1 R1 hfR) rfl trivial (by unfold Dk.rd; exact vc trivial) ?_
  rintro r out ⟨rfl, rfl⟩
  refine ⟨by simp, by simp, fun _ => ⟨.v _, by simp⟩, vc ?_⟩
  refine drawQ_of false (by rfl) (by simp) (vc ?_)
  refine calld_of [] false [] (toDisk_ok d hf) rfl trivial (by unfold Dk.rd; exact vc trivial) (by rfl) ⟨_, _, rfl, rfl⟩ ?_
  rintro r out ⟨rfl, rfl⟩
  refine ⟨by simp, by simp [Dk.obs], by simp, ?_⟩
  unfold Dk.ow Dk.obs
  refine vc ?_
  refine calld_of [201, 202, 417, 418] true [] (eqDisk_ok d d hf) rfl trivial (by unfold Dk.rd; exact vc trivial) (by rfl) ⟨_, _, rfl, rfl⟩ ?_
  rintro r out ⟨rfl, rfl⟩
  refine ⟨by simp, by simp, fun _ => ⟨.v _, by simp⟩, vc ?_⟩
  refine callq_of false [] (toByteS_ok b (by omega)) rfl trivial (vc trivial) ?_
  rintro r out ⟨rfl, rfl⟩
  refine ⟨by simp, by simp, by simp, vc ?_⟩
  refine callq_of true [] (eqByteS_ok b b (by omega)) rfl trivial (vc trivial) ?_
  rintro r out ⟨rfl, rfl⟩
  refine ⟨by simp, by simp, fun _ => ⟨.v _, by simp⟩, vc ?_⟩
  have hl1 := d.lens
  have hl2 := R1.lens
  have hc1 := d.cnt_le
  have hc2 := R1.cnt_le
  refine callq_of false [201, 202] (markDisk_ok 155 90 d 1 (by omega) (by omega)) rfl (vc trivial) (by unfold Dk.ow; exact vc trivial) ?_
  rintro r out ⟨rfl, rfl⟩
  refine ⟨by simp, by simp, by simp, vc ?_⟩
  refine callq_of false [233] (markByteS_ok 5 b (1 + d.cnt) (by omega)) rfl (vc trivial) (vc trivial) ?_
  rintro r out ⟨rfl, rfl⟩
  refine ⟨by simp, by simp, by simp, vc ?_⟩
  refine brB_intro (fun h => ?_) (fun h => ?_)
  · simp at h; omega
  refine callq_of true [] (eqDisk_ok R1 R1 hfR) rfl trivial (by unfold Dk.rd; exact vc trivial) ?_
  rintro r out ⟨rfl, rfl⟩
  refine ⟨by simp, by simp, fun _ => ⟨.v _, by simp⟩, vc ?_⟩
  refine callq_of false [273, 274] (markDisk_ok 155 90 R1 1 (by omega) (by omega)) rfl (vc trivial) (by unfold Dk.ow; exact vc trivial) ?_
  rintro r out ⟨rfl, rfl⟩
  refine ⟨by simp, by simp, by simp, vc ?_⟩
  refine callq_of true [] (heldMarked_ok R1 1 (by omega) (by omega)) rfl trivial (by unfold Dk.rd; refine vc ?_; exact ⟨(mkD_lens R1 1).1.symm, (mkD_lens R1 1).2.symm⟩) ?_
  rintro r out ⟨rfl, rfl⟩
  refine ⟨by simp, by simp, fun _ => ⟨.v _, by simp⟩, vc ?_⟩
  refine brB_intro (fun h => ?_) (fun h => ?_)
  · simp at h; omega
  refine callq_of false [] (toDisk_ok d hf) rfl trivial (by unfold Dk.rd; exact vc trivial) ?_
  rintro r out ⟨rfl, rfl⟩
  refine ⟨by simp, by simp [Dk.obs], by simp, ?_⟩
  unfold Dk.ow Dk.obs
  refine vc ?_
  refine callq_of false [] (toByteS_ok b (by omega)) rfl trivial (vc trivial) ?_
  rintro r out ⟨rfl, rfl⟩
  refine ⟨by simp, by simp, by simp, vc ?_⟩
  refine callq_of true [] himpl rfl trivial (vc trivial) ?_
  rintro r out ⟨rfl, rfl⟩
  refine ⟨by simp, by simp [Dk.obs], fun _ => ⟨.tu _ (by intro c hc; simp at hc; rcases hc with rfl | rfl; exact rs_ow _ (by simp [Dk.obs]); exact .v _), rso_ow _⟩, ?_⟩
  unfold Dk.ow Dk.obs
  refine vc ?_
  refine callq_of true [] (eqDisk_ok R1 R1 hfR) rfl trivial (by unfold Dk.rd; exact vc trivial) ?_
  rintro r out ⟨rfl, rfl⟩
  refine ⟨by simp, by simp, fun _ => ⟨.v _, by simp⟩, vc ?_⟩
  refine callq_of true [] (heldMarked_ok R1 1 (by omega) (by omega)) rfl trivial (by unfold Dk.rd; refine vc ?_; exact ⟨(mkD_lens R1 1).1.symm, (mkD_lens R1 1).2.symm⟩) ?_
  rintro r out ⟨rfl, rfl⟩
  refine ⟨by simp, by simp, fun _ => ⟨.v _, by simp⟩, vc ?_⟩
  refine brB_intro (fun h => ?_) (fun h => ?_)
  · simp at h; omega
  exact EndQ.closed (.v _) ⟨rfl, rfl⟩
end Go.Proofs.Ytnnmpdanfeejbaa.Abs
