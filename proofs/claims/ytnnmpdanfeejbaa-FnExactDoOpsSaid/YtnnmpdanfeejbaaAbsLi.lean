/- The law on DoOps, walked. -/
import Derived.Test.YtnnmpdanfeejbaaAbsLh
namespace Go.Proofs.Ytnnmpdanfeejbaa.Abs
open Go Go.Proofs
set_option maxRecDepth 10000
set_option linter.unusedVariables false
set_option linter.unusedSimpArgs false
theorem sumL_bound {α : Type} (f : α → Nat) (M : Nat) : ∀ (xs : List α), (∀ x ∈ xs, f x ≤ M) → sumL f xs ≤ xs.length * M
  | [], _ => by simp [sumL_nil]
  | x :: r, h => by
    have := sumL_bound f M r (fun y hy => h y (List.mem_cons_of_mem _ hy))
    have h1 := h x (List.mem_cons_self ..)
    rw [sumL_cons, List.length_cons, Nat.add_mul]; omega
theorem Dk.ok.size {d : Dk} (h : d.ok) : d.size ≤ 2^20 := by
  have h1 := sumL_bound List.length 512 d.sh (fun x hx => by rcases h.2.1 x hx with e | e <;> omega)
  have h2 := sumL_bound (fun x : Int × List UInt8 => x.2.length) 512 d.wr (fun x hx => by have := (h.2.2 x hx).2; omega)
  have := h.1
  unfold Dk.size
  omega
theorem opsL_ok {e : Dk} : ∀ {l : List (Bool × Int × List UInt8)} {d : Dk}, d.ok → opsL d l = some e → e.ok
  | [], d, hd, h => by cases h; exact hd
  | o :: r, d, hd, h => by
    rw [opsL] at h
    cases hs : opStep d o with
    | none => rw [hs] at h; cases h
    | some d' => rw [hs] at h; exact opsL_ok (opStep_ok hd hs) h
theorem Dk.doOps_size (d : Dk) (l : List (Bool × Int × List UInt8)) : (d.doOps l).size ≤ 2^20 := by
  have h0 : (⟨[], []⟩ : Dk).size ≤ 2^20 := by simp [Dk.size, sumL_nil]
  unfold Dk.doOps
  split
  · rename_i h
    cases hs : opsL d l with
    | none => exact h0
    | some e => exact (opsL_ok h hs).size
  · exact h0
theorem cntO_eq : ∀ l : List (Bool × Int × List UInt8), sumL cntO l = sumL szO l + 2 * l.length
  | [] => rfl
  | x :: r => by rw [sumL_cons, sumL_cons, cntO_eq r, List.length_cons, cntO, szO]; omega
theorem lawDoOps_ok (d : Dk) (l : List (Bool × Int × List UInt8)) (hd : d.fits (2^47)) (hl : l.length ≤ 2^47 ∧ ∀ x ∈ l, x.2.2.length ≤ 2^47) : CallOk Try.prog 8 [] [d.rd, Rw (l.map (opC false))] (fun r out => r = Bo true ∧ out = []) := by
  unfold Dk.rd
  refine callOk_z (np := 0) {} mixed Try.func8 (by rfl) Try.ntmps8 Try.results8 (by rfl) (Nat.le_of_ble_eq_true rfl) rfl rfl rfl (vc ?_)
  refine callq_of false [] (szDisk_ok d 1048576 hd (by omega)) rfl trivial (by unfold Dk.rd; exact vc trivial) ?_
  rintro r out ⟨rfl, rfl⟩
  refine ⟨by simp, by simp, by simp, vc ?_⟩
  have hc := szB_cases d.size 1048576
  refine brB_intro (fun h => EndQ.closed (.v _) ⟨rfl, rfl⟩) (fun h => ?_)
  have h1 : ¬ szB d.size 1048576 < 0 := by simpa using h
  refine callq_of false [] (szOpS_ok l (szB d.size 1048576) hl.1 hl.2 (by omega)) rfl trivial (vc trivial) ?_
  rintro r out ⟨rfl, rfl⟩
  refine ⟨by simp, by simp, by simp, vc ?_⟩
  have hc2 := szB_cases (l.length + sumL szO l) (szB d.size 1048576)
  refine brB_intro (fun h => EndQ.closed (.v _) ⟨rfl, rfl⟩) (fun h => ?_)
  have h2 : ¬ szB (l.length + sumL szO l) (szB d.size 1048576) < 0 := by simpa using h
  have hs : d.size ≤ 2^20 := by omega
  have hll : l.length + sumL szO l ≤ 2^20 := by omega
  have hf : d.fits (2^40) := Dk.fits_of (by omega)
  have hlf : ∀ x ∈ l, x.2.2.length ≤ 2^40 := fun x hx => by have h3 : szO x ≤ sumL szO l := sumL_mem szO hx; have h4 : szO x = x.2.2.length := rfl; omega
  have hl40 : l.length ≤ 2^40 := by omega
  have hw := d.doOps_size l
  have hspec := specDoOps_ok d hf l hl40 hlf
  have himpl := implDoOps_ok d hf l hl40 hlf
  unfold Dk.rd at hspec himpl
  generalize d.doOps l = R1 at hw hspec himpl
  have hfR : R1.fits (2^40) := Dk.fits_of (by omega)
  refine callq_of false [] (toDisk_ok d hf) rfl trivial (by unfold Dk.rd; exact vc trivial) ?_
  rintro r out ⟨rfl, rfl⟩
  refine ⟨by simp, by simp [Dk.obs], by simp, ?_⟩
  unfold Dk.ow Dk.obs
  refine vc ?_
  refine callq_of false [] (toOpS_ok l hl40 hlf) rfl trivial (vc trivial) ?_
  rintro r out ⟨rfl, rfl⟩
  refine ⟨by simp, by simp, by simp, vc ?_⟩
  refine callq_of true [] hspec rfl trivial (vc trivial) ?_
  rintro r out ⟨rfl, rfl⟩
  refine ⟨by simp, by simp [Dk.obs], fun _ => ⟨rs_ow _ (by simp [Dk.obs]), rso_ow _⟩, ?_⟩
  unfold Dk.ow Dk.obs
  refine vc ?_
  refine callq_of false [] (toDisk_ok d hf) rfl trivial (by unfold Dk.rd; exact vc trivial) ?_
  rintro r out ⟨rfl, rfl⟩
  refine ⟨by simp, by simp [Dk.obs], by simp, ?_⟩
  unfold Dk.ow Dk.obs
  refine vc ?_
  refine callq_of false [] (toOpS_ok l hl40 hlf) rfl trivial (vc trivial) ?_
  rintro r out ⟨rfl, rfl⟩
  refine ⟨by simp, by simp, by simp, vc ?_⟩
  refine callq_of true [] himpl rfl trivial (vc trivial) ?_
  rintro r out ⟨rfl, rfl⟩
  refine ⟨by simp, by simp [Dk.obs], fun _ => ⟨rs_ow _ (by simp [Dk.obs]), rso_ow _⟩, ?_⟩
  unfold Dk.ow Dk.obs
  refine vc ?_
  refine callq_of true [] (eqDisk_ok R1 R1 hfR) rfl trivial (by unfold Dk.rd; exact vc trivial) ?_
  rintro r out ⟨rfl, rfl⟩
  refine ⟨by simp, by simp, fun _ => ⟨.v _, by simp⟩, vc ?_⟩
  refine drawQ_of false (by rfl) (by simp) (vc ?_)
  refine calld_of [] false [] (toDisk_ok d hf) rfl trivial (by unfold Dk.rd; exact vc trivial) (by rfl) ⟨_, _, rfl, rfl⟩ ?_
  rintro r out ⟨rfl, rfl⟩
  refine ⟨by simp, by simp [Dk.obs], by simp, ?_⟩
  unfold Dk.ow Dk.obs
  refine vc ?_
  refine calld_of [185, 186, 321, 322] true [] (eqDisk_ok d d hf) rfl trivial (by unfold Dk.rd; exact vc trivial) (by rfl) ⟨_, _, rfl, rfl⟩ ?_
  rintro r out ⟨rfl, rfl⟩
  refine ⟨by simp, by simp, fun _ => ⟨.v _, by simp⟩, vc ?_⟩
  refine callq_of false [] (toOpS_ok l hl40 hlf) rfl trivial (vc trivial) ?_
  rintro r out ⟨rfl, rfl⟩
  refine ⟨by simp, by simp, by simp, vc ?_⟩
  refine callq_of true [] (eqOpS_ok l l hl40 hlf) rfl trivial (vc trivial) ?_
  rintro r out ⟨rfl, rfl⟩
  refine ⟨by simp, by simp, fun _ => ⟨.v _, by simp⟩, vc ?_⟩
  have hl1 := d.lens
  have hl2 := R1.lens
  have hc1 := d.cnt_le
  have hc3 := R1.cnt_le
  have hc4 := cntO_eq l
  refine callq_of false [185, 186] (markDisk_ok 155 90 d 1 (by omega) (by omega)) rfl (vc trivial) (by unfold Dk.ow; exact vc trivial) ?_
  rintro r out ⟨rfl, rfl⟩
  refine ⟨by simp, by simp, by simp, vc ?_⟩
  refine callq_of false [217] (markOpS_ok 139 l (1 + d.cnt) (by omega) (by omega)) rfl (vc trivial) (vc trivial) ?_
  rintro r out ⟨rfl, rfl⟩
  refine ⟨by simp, by simp, by simp, vc ?_⟩
  refine brB_intro (fun h => ?_) (fun h => ?_)
  · simp at h; omega
  refine callq_of true [] (eqDisk_ok R1 R1 hfR) rfl trivial (by unfold Dk.rd; exact vc trivial) ?_
  rintro r out ⟨rfl, rfl⟩
  refine ⟨by simp, by simp, fun _ => ⟨.v _, by simp⟩, vc ?_⟩
  refine callq_of false [249, 250] (markDisk_ok 155 90 R1 1 (by omega) (by omega)) rfl (vc trivial) (by unfold Dk.ow; exact vc trivial) ?_
  rintro r out ⟨rfl, rfl⟩
  refine ⟨by simp, by simp, by simp, vc ?_⟩
  refine callq_of true [] (heldMarked_ok R1 1 (by omega) (by omega)) rfl trivial (by unfold Dk.rd; refine vc ?_; exact ⟨(mkD_lens R1 1).1.symm, (mkD_lens R1 1).2.symm⟩) ?_
  rintro r out ⟨rfl, rfl⟩
  refine ⟨by simp, by simp, fun _ => ⟨.v _, by simp⟩, vc ?_⟩
  refine brB_intro (fun h => ?_) (fun h => ?_)
  · simp at h; omega
  refine callq_of false [] (toDisk_ok d hf) rfl trivial (by unfold Dk.rd; exact vc trivial) ?_
  rintro r out ⟨rfl, rfl⟩
  refine ⟨by simp, by simp [Dk.obs], by simp, ?_⟩
  unfold Dk.ow Dk.obs
  refine vc ?_
  refine callq_of false [] (toOpS_ok l hl40 hlf) rfl trivial (vc trivial) ?_
  rintro r out ⟨rfl, rfl⟩
  refine ⟨by simp, by simp, by simp, vc ?_⟩
  refine callq_of true [] himpl rfl trivial (vc trivial) ?_
  rintro r out ⟨rfl, rfl⟩
  refine ⟨by simp, by simp [Dk.obs], fun _ => ⟨rs_ow _ (by simp [Dk.obs]), rso_ow _⟩, ?_⟩
  unfold Dk.ow Dk.obs
  refine vc ?_
  refine callq_of true [] (eqDisk_ok R1 R1 hfR) rfl trivial (by unfold Dk.rd; exact vc trivial) ?_
  rintro r out ⟨rfl, rfl⟩
  refine ⟨by simp, by simp, fun _ => ⟨.v _, by simp⟩, vc ?_⟩
  refine callq_of true [] (heldMarked_ok R1 1 (by omega) (by omega)) rfl trivial (by unfold Dk.rd; refine vc ?_; exact ⟨(mkD_lens R1 1).1.symm, (mkD_lens R1 1).2.symm⟩) ?_
  rintro r out ⟨rfl, rfl⟩
  refine ⟨by simp, by simp, fun _ => ⟨.v _, by simp⟩, vc ?_⟩
  refine brB_intro (fun h => ?_) (fun h => ?_)
  · simp at h; omega
  exact EndQ.closed (.v _) ⟨rfl, rfl⟩
end Go.Proofs.Ytnnmpdanfeejbaa.Abs
