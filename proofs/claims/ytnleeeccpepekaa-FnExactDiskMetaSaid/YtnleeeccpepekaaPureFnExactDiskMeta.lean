/- The pure statement of FnExactDiskMeta: what the printed functions of this law compute answers true, for every argument within the bounds that the statement names. -/
import Derived.Test.YtnleeeccpepekaaPFnExactDiskMetax10
import Derived.Test.YtnleeeccpepekaaLib
import Derived.Test.YtnleeeccpepekaaLibOrd
import Derived.Test.YtnleeeccpepekaaLibOpen
import Derived.Test.YtnleeeccpepekaaLibRun
import Derived.Test.YtnleeeccpepekaaLibBits
namespace Go.Proofs.Ytnleeeccpepekaa.Pure
open Go Go.RowKit Go.Proofs.Ytnleeeccpepekaa.PFnExactDiskMeta Go.Proofs.YtnleeeccpepekaaW.PrintWords Go.Proofs.YtnleeeccpepekaaW.PrintLast Go.Proofs.YtnleeeccpepekaaW.PrintMore Go.Proofs.Ytnleeeccpepekaa.Lib
set_option linter.unusedVariables false
set_option linter.unusedSimpArgs false

def G5 (x : Int) : Prop := (Lit.int .u8 x).wf = true
def G22 (xs : List (Int)) : Prop := xs.length * 1 ≤ 140737488351232 ∧ ∀ x ∈ xs, G5 x
def G143 (x : S143) : Prop := G22 x.f0
def G70 (xs : List (S143)) : Prop := xs.length * 24 ≤ 140737488351232 ∧ ∀ x ∈ xs, G143 x
def G3 (x : Int) : Prop := (Lit.int .i64 x).wf = true
def G145 (x : S145) : Prop := G3 x.f0 ∧ G22 x.f1
def G71 (xs : List (S145)) : Prop := xs.length * 32 ≤ 140737488351232 ∧ ∀ x ∈ xs, G145 x
def G73 (x : (List (S143)) × (List (S145))) : Prop := G70 x.1 ∧ G71 x.2

/-! ### diskOkD -/
def sheetP (ss : List S122) (j : Nat) : Prop := (rd_T122 ss (j : Int)).f0.length = 0 ∨ (rd_T122 ss (j : Int)).f0.length = 512
def writeP (n : Nat) (ds : List S124) (j : Nat) : Prop := 0 ≤ (rd_T124 ds (j : Int)).f0 ∧ (rd_T124 ds (j : Int)).f0 < (n : Int) ∧ (rd_T124 ds (j : Int)).f1.length = 512
def diskOk (ss : List S122) (ds : List S124) : Prop := (∀ j, j < ss.length → sheetP ss j) ∧ (∀ j, j < ds.length → writeP ss.length ds j) ∧ 2 ≤ ss.length ∧ ss.length ≤ 400 ∧ ds.length ≤ 500

/-! ### tearD -/
def sheet (l : List Int) : List Int := if l.length = 0 then List.replicate 512 0 else l
def clamp (n : Int) : Nat := (max 0 (min n 512)).toNat
theorem clamp_le (n : Int) : clamp n ≤ 512 := by unfold clamp; omega
def tearL (a b : List Int) (n : Int) : List Int := if (sheet a).length = 512 ∧ (sheet b).length = 512 then (sheet b).take (clamp n) ++ (sheet a).drop (clamp n) else []
theorem sheet_of {l : List Int} (h : l.length = 512) : sheet l = l := by unfold sheet; rw [if_neg (by omega)]
theorem tearL_of {a b : List Int} (ha : a.length = 512) (hb : b.length = 512) (n : Int) : tearL a b n = b.take (clamp n) ++ a.drop (clamp n) := by unfold tearL; rw [sheet_of ha, sheet_of hb, if_pos ⟨ha, hb⟩]

/-! ### diskReadD -/
def lastB (ds : List S124) (a : Int) (b : List Int) : List Int := ds.foldl (fun b x => if x.f0 = a then x.f1 else b) b
theorem lastB_nil (a : Int) (b : List Int) : lastB [] a b = b := rfl
theorem lastB_take (ds : List S124) (a : Int) (b : List Int) {i : Nat} (h : i < ds.length) : lastB (ds.take (i + 1)) a b = if (rd_T124 ds (i : Int)).f0 = a then (rd_T124 ds (i : Int)).f1 else lastB (ds.take i) a b := by
  unfold lastB
  have e : rd_T124 ds (i : Int) = ds[i] := by unfold rd_T124; rw [Int.toNat_natCast]; exact getD_lt _ _ h
  rw [List.take_succ_eq_append_getElem h, List.foldl_append, e]
  rfl
theorem lastB_all (ds : List S124) (a : Int) (b : List Int) : lastB (ds.take ds.length) a b = lastB ds a b := by rw [List.take_length]
theorem lastB_ok {ss : List S122} {ds : List S124} (h : diskOk ss ds) (a : Int) (b : List Int) (hb : b.length = 0 ∨ b.length = 512) : ∀ i, i ≤ ds.length → (lastB (ds.take i) a b).length = 0 ∨ (lastB (ds.take i) a b).length = 512 := by
  intro i
  induction i with
  | zero => intro _; exact hb
  | succ i ih =>
    intro hi
    rw [lastB_take ds a b (by omega)]
    split
    · exact .inr (h.2.1 i (by omega)).2.2
    · exact ih (by omega)
/-- What lies on a sheet of a right disk. -/
def pageAt (ss : List S122) (ds : List S124) (a : Int) : List Int := sheet (lastB ds a (rd_T122 ss a).f0)
theorem pageAt_len {ss : List S122} {ds : List S124} (h : diskOk ss ds) (j : Nat) (hj : j < ss.length) : (pageAt ss ds (j : Int)).length = 512 := by
  unfold pageAt sheet
  have := lastB_ok h (j : Int) (rd_T122 ss (j : Int)).f0 (h.1 j hj) ds.length (Nat.le_refl _)
  rw [lastB_all] at this
  split
  · rw [List.length_replicate]
  · omega
def BytD (ss : List S122) (ds : List S124) : Prop := (∀ x ∈ ss, Byt x.f0) ∧ (∀ x ∈ ds, Byt x.f1)
theorem bytS {ss : List S122} {ds : List S124} (h : BytD ss ds) (a : Int) : Byt (rd_T122 ss a).f0 := by
  unfold rd_T122
  rcases Nat.lt_or_ge a.toNat ss.length with hl | hg
  · rw [getD_lt _ _ hl]; exact h.1 _ (List.getElem_mem hl)
  · rw [List.getD_eq_getElem?_getD, List.getElem?_eq_none hg]
    exact Byt.nil
theorem bytW {ss : List S122} {ds : List S124} (h : BytD ss ds) (i : Nat) (hi : i < ds.length) : Byt (rd_T124 ds (i : Int)).f1 := by
  unfold rd_T124
  rw [Int.toNat_natCast, getD_lt _ _ hi]; exact h.2 _ (List.getElem_mem hi)
theorem pageAt_byt {ss : List S122} {ds : List S124} (h : BytD ss ds) (a : Int) : Byt (pageAt ss ds a) := by
  have key : ∀ i, i ≤ ds.length → Byt (lastB (ds.take i) a (rd_T122 ss a).f0) := by
    intro i
    induction i with
    | zero => intro _; exact bytS h a
    | succ i ih =>
      intro hi
      rw [lastB_take ds a _ (by omega)]
      split
      · exact bytW h i (by omega)
      · exact ih (by omega)
  have := key ds.length (Nat.le_refl _)
  rw [lastB_all] at this
  unfold pageAt sheet
  split
  · exact fun x hx => by rw [(List.mem_replicate.1 hx).2]; omega
  · exact this

/-! ### implDiskRead -/
theorem impl_dread_l0 {ss : List S122} {ds : List S124} (h : diskOk ss ds) (a : Int) (b : List Int) (hb : b.length = 0 ∨ b.length = 512) (d : Nat) : ∀ i : Nat, i + d = ds.length →
    Ev (fun k => impl_Disk_read.l0 k ds a (i : Int) (lastB (ds.take i) a b)) (sheet (lastB ds a b)) := by
  have hd := h.2.2.2.2
  induction d with
  | zero =>
    intro i hi
    refine Ev.step1 fun k => ?_
    have e : i = ds.length := by omega
    have hl := lastB_ok h a b hb ds.length (Nat.le_refl _)
    simp only [impl_Disk_read.l0]
    rw [if_neg (by omega), e]
    rw [lastB_all] at hl ⊢
    unfold sheet impl_copyBytes.f
    by_cases c : (lastB ds a b).length = 0
    · rw [if_pos (by omega), if_pos c]
    · rw [if_neg (by omega), if_pos (by simp; omega), if_neg c]; rfl
  | succ d ih =>
    intro i hi
    have next := ih (i + 1) (by omega)
    rw [lastB_take ds a b (by omega)] at next
    refine Ev.step (fun k => ?_) next
    simp only [impl_Disk_read.l0]
    rw [if_pos (by omega), if_pos (by omega), wrS (by omega)]
    by_cases c : (rd_T124 ds (i : Int)).f0 = a
    · rw [if_pos c, if_pos c]
    · rw [if_neg c, if_neg c]
theorem impl_read_ev {ss : List S122} {ds : List S124} (h : diskOk ss ds) (j : Nat) (hj : j < ss.length) : Ev (fun k => impl_Disk_read.f k ss ds (j : Int)) (pageAt ss ds (j : Int)) := by
  unfold impl_Disk_read.f
  simp only [if_pos (show (0 : Int) ≤ (j : Int) by omega), if_pos (show (j : Int) < (ss.length : Int) by omega)]
  exact impl_dread_l0 h (j : Int) _ (h.1 j hj) ds.length 0 (by omega)

/-! ### specDiskOk -/
theorem spec_disk_l1 (ss : List S122) (ds : List S124) (h1 : ss.length ≤ 5864062014634) (h2 : ds.length ≤ 4398046510976) :
    Ev (fun k => spec_DiskOk.l1 k ds (ds.length : Int) 0 ss ds) (dec (∀ j, j < ds.length → writeP ss.length ds j) && true) := by
  refine loop_dec0 (F := fun k i => spec_DiskOk.l1 k ds (ds.length : Int) i ss ds) (Ev.step1 fun k => ?_) (fun i hi c k => ?_) (fun i hi c k => ?_)
  · simp only [spec_DiskOk.l1]
    rw [if_neg (by omega)]
  · simp only [spec_DiskOk.l1]
    unfold writeP at c
    rw [if_pos (by omega), if_pos (by omega), if_pos (by omega), if_neg (by omega), if_neg (by omega), if_pos (by omega), wrS (by omega)]
  · simp only [spec_DiskOk.l1]
    unfold writeP at c
    rw [if_pos (by omega), if_pos (by omega), if_pos (by omega)]
    by_cases c1 : (rd_T124 ds (i : Int)).f0 < 0
    · rw [if_pos c1]
    · rw [if_neg c1]
      by_cases c2 : (rd_T124 ds (i : Int)).f0 ≥ (ss.length : Int)
      · rw [if_pos c2]
      · rw [if_neg c2, if_neg (by omega)]
theorem spec_DiskOk_ev (ss : List S122) (ds : List S124) (h1 : ss.length ≤ 5864062014634) (h2 : ds.length ≤ 4398046510976) : Ev (fun k => spec_DiskOk.f k ss ds) (dec (diskOk ss ds)) := by
  unfold spec_DiskOk.f
  have no : Ev (fun k => spec_DiskOk.j0 k true ss ds) false := Ev.step1 fun k => by simp only [spec_DiskOk.j0]; rfl
  by_cases c1 : (ss.length : Int) < 2
  · simp only [if_pos c1]; rw [dec_f (fun h => by have := h.2.2.1; omega)]; exact no
  simp only [if_neg c1]
  by_cases c2 : (ss.length : Int) > 400
  · simp only [if_pos c2]; rw [dec_f (fun h => by have := h.2.2.2.1; omega)]; exact no
  simp only [if_neg c2]
  by_cases c3 : (ds.length : Int) > 500
  · rw [decide_eq_true c3, dec_f (fun h => by have := h.2.2.2.2; omega)]; exact no
  rw [decide_eq_false c3]
  have e : dec (diskOk ss ds) = (dec (∀ j, j < ss.length → sheetP ss j) && (dec (∀ j, j < ds.length → writeP ss.length ds j) && true)) := by
    rw [Bool.and_true, and_dec]
    exact dec_eq ⟨fun h => ⟨h.1, h.2.1⟩, fun h => ⟨h.1, h.2, by omega, by omega, by omega⟩⟩
  rw [e]
  refine Ev.step (f := fun k => spec_DiskOk.l0 k ss (ss.length : Int) 0 ss ds) (fun k => by simp only [spec_DiskOk.j0, Bool.false_eq_true, if_false]) ?_
  refine loop_dec0 (F := fun k i => spec_DiskOk.l0 k ss (ss.length : Int) i ss ds) (Ev.step (fun k => ?_) (spec_disk_l1 ss ds h1 h2)) (fun i hi c k => ?_) (fun i hi c k => ?_)
  · simp only [spec_DiskOk.l0]
    rw [if_neg (by omega)]
  · simp only [spec_DiskOk.l0]
    rw [if_pos (by omega), if_pos (by omega), if_pos (by omega), wrS (by omega)]
    unfold sheetP at c
    by_cases c1 : (rd_T122 ss (i : Int)).f0.length = 0
    · rw [if_pos (by omega)]
    · rw [if_neg (by omega), if_pos (by omega)]
  · simp only [spec_DiskOk.l0]
    unfold sheetP at c
    rw [if_pos (by omega), if_pos (by omega), if_pos (by omega), if_neg (by omega), if_neg (by omega)]

/-! ### specDiskRead -/
noncomputable def diskRead (ss : List S122) (ds : List S124) (a : Int) : List Int × Bool := if dec (diskOk ss ds ∧ 0 ≤ a ∧ a < (ss.length : Int)) = true then (pageAt ss ds a, true) else ([], false)
theorem spec_dread_l0 {ss : List S122} {ds : List S124} (h : diskOk ss ds) (j : Nat) (hj : j < ss.length) : ∀ i : Nat, i ≤ ds.length →
    Ev (fun k => spec_DiskRead.l0 k (j : Int) ((i : Int) - 1) ss ds) (sheet (lastB (ds.take i) (j : Int) (rd_T122 ss (j : Int)).f0), true) := by
  have hd := h.2.2.2.2
  intro i
  induction i with
  | zero =>
    intro _
    refine Ev.step1 fun k => ?_
    simp only [spec_DiskRead.l0]
    rw [if_neg (by omega), if_pos (by omega), if_pos (by omega)]
    have hs := h.1 j hj
    unfold sheetP at hs
    unfold spec_l04Sheet.f
    rw [List.take_zero, lastB_nil]
    unfold sheet
    by_cases c : (rd_T122 ss (j : Int)).f0.length = 0
    · rw [if_pos (by omega), if_pos (by decide), if_pos c]
      rfl
    · have e : (rd_T122 ss (j : Int)).f0.length = 512 := by omega
      rw [if_neg (by omega), if_neg c]
      simp only [Option.bind_some]
      rw [if_pos (by simp; omega)]
      simp [e]
  | succ i ih =>
    intro hi
    have e : ((i + 1 : Nat) : Int) - 1 = (i : Int) := by omega
    rw [lastB_take ds (j : Int) _ (by omega), e]
    by_cases c : (rd_T124 ds (i : Int)).f0 = (j : Int)
    · refine Ev.step1 fun k => ?_
      have hw := (h.2.1 i (by omega)).2.2
      simp only [spec_DiskRead.l0, Option.bind_some]
      rw [if_pos (by omega), if_pos (by omega), if_pos (by omega), if_pos c, if_pos (by simp; omega), if_pos c, sheet_of hw]
      rfl
    · rw [if_neg c]
      refine Ev.step (fun k => ?_) (ih (by omega))
      simp only [spec_DiskRead.l0]
      rw [if_pos (by omega), if_pos (by omega), if_pos (by omega), if_neg c, wr (by omega) (by omega)]
theorem spec_DiskRead_ev (ss : List S122) (ds : List S124) (a : Int) (h1 : ss.length ≤ 5864062014634) (h2 : ds.length ≤ 4398046510976) : Ev (fun k => spec_DiskRead.f k ss ds a) (diskRead ss ds a) := by
  unfold spec_DiskRead.f diskRead
  refine Ev.bind (spec_DiskOk_ev ss ds h1 h2) ?_
  by_cases c : dec (diskOk ss ds) = true
  · have h := dec_iff.1 c
    simp only [if_pos c]
    by_cases c0 : a < 0
    · rw [dec_f (fun f => by have := f.2.1; omega)]
      simp only [if_pos c0]
      exact Ev.step1 fun k => by simp only [spec_DiskRead.j0]; rfl
    · simp only [if_neg c0]
      by_cases c1 : a ≥ (ss.length : Int)
      · rw [dec_f (fun f => by have := f.2.2; omega), decide_eq_true c1]
        exact Ev.step1 fun k => by simp only [spec_DiskRead.j0]; rfl
      · rw [dec_t ⟨h, by omega, by omega⟩, decide_eq_false c1]
        obtain ⟨j, rfl⟩ := Int.eq_ofNat_of_zero_le (show 0 ≤ a by omega)
        have fin := spec_dread_l0 h j (by omega) ds.length (Nat.le_refl _)
        rw [lastB_all] at fin
        refine Ev.step (fun k => ?_) fin
        simp only [spec_DiskRead.j0, Bool.false_eq_true, if_false]
        rw [wr (by omega) (by omega)]
  · simp only [if_neg c]
    rw [dec_f (fun f => c (dec_t f.1))]
    exact Ev.step1 fun k => by simp only [spec_DiskRead.j0]; rfl

/-! ### within -/
theorem within_eq (x lo hi : Int) : impl_within.f x lo hi = some (decide (lo ≤ x ∧ x ≤ hi)) := by
  unfold impl_within.f
  by_cases h : x ≥ lo
  · rw [if_pos h]; simp [h]
  · rw [if_neg h]; simp; omega

/-! ### implDiskOk -/
theorem impl_disk_l1 (ss : List S122) (ds : List S124) (h1 : ss.length ≤ 5864062014634) (h2 : ds.length ≤ 4398046510976) :
    Ev (fun k => impl_DiskOk.l1 k ds (ds.length : Int) 0 ss ds) (dec (∀ j, j < ds.length → writeP ss.length ds j) && dec (2 ≤ ss.length ∧ ss.length ≤ 400 ∧ ds.length ≤ 500)) := by
  refine loop_dec0 (F := fun k i => impl_DiskOk.l1 k ds (ds.length : Int) i ss ds) (Ev.step1 fun k => ?_) (fun i hi c k => ?_) (fun i hi c k => ?_)
  · simp only [impl_DiskOk.l1]
    rw [if_neg (by omega), within_eq]
    simp only [Option.bind_some]
    by_cases c1 : (2 : Int) ≤ ss.length ∧ (ss.length : Int) ≤ 400
    · rw [if_pos (decide_eq_true c1)]; exact congrArg some (bool_dec (by rw [decide_eq_true_iff]; omega))
    · rw [if_neg (fun e => c1 (of_decide_eq_true e)), dec_f (by omega)]
  · simp only [impl_DiskOk.l1]
    unfold writeP at c
    rw [if_pos (by omega), if_pos (by omega), if_pos (by omega), wr (n := (ss.length : Int) - 1) (by omega) (by omega), within_eq]
    simp only [Option.bind_some]
    rw [if_pos (decide_eq_true (by omega)), if_pos (by omega), wrS (by omega)]
  · simp only [impl_DiskOk.l1]
    unfold writeP at c
    rw [if_pos (by omega), if_pos (by omega), if_pos (by omega), wr (n := (ss.length : Int) - 1) (by omega) (by omega), within_eq]
    simp only [Option.bind_some]
    by_cases c1 : 0 ≤ (rd_T124 ds (i : Int)).f0 ∧ (rd_T124 ds (i : Int)).f0 ≤ (ss.length : Int) - 1
    · rw [if_pos (decide_eq_true c1), if_neg (by omega)]
    · rw [if_neg (fun e => c1 (of_decide_eq_true e))]
theorem impl_DiskOk_ev (ss : List S122) (ds : List S124) (h1 : ss.length ≤ 5864062014634) (h2 : ds.length ≤ 4398046510976) : Ev (fun k => impl_DiskOk.f k ss ds) (dec (diskOk ss ds)) := by
  unfold impl_DiskOk.f
  have e : dec (diskOk ss ds) = (dec (∀ j, j < ss.length → sheetP ss j) && (dec (∀ j, j < ds.length → writeP ss.length ds j) && dec (2 ≤ ss.length ∧ ss.length ≤ 400 ∧ ds.length ≤ 500))) := by rw [and_dec, and_dec]; rfl
  rw [e]
  refine loop_dec0 (F := fun k i => impl_DiskOk.l0 k ss (ss.length : Int) i ss ds) (Ev.step (fun k => ?_) (impl_disk_l1 ss ds h1 h2)) (fun i hi c k => ?_) (fun i hi c k => ?_)
  · simp only [impl_DiskOk.l0]
    rw [if_neg (by omega)]
  · simp only [impl_DiskOk.l0]
    rw [if_pos (by omega), if_pos (by omega), if_pos (by omega), wrS (by omega)]
    unfold sheetP at c
    by_cases c1 : (rd_T122 ss (i : Int)).f0.length = 0
    · rw [if_pos (by omega)]
    · rw [if_neg (by omega), if_pos (by omega)]
  · simp only [impl_DiskOk.l0]
    unfold sheetP at c
    rw [if_pos (by omega), if_pos (by omega), if_pos (by omega), if_neg (by omega), if_neg (by omega)]

/-! ### toByteS -/
theorem toByteS_l0 (l : List Int) (h : l.length ≤ 140737488351232) (d : Nat) : ∀ i : Nat, i + d = l.length →
    Ev (fun k => laws_toByteS.l0 k l (l.take i ++ List.replicate (l.length - i) 0) (i : Int)) l := by
  induction d with
  | zero =>
    intro i hi
    refine Ev.step1 fun k => ?_
    simp only [laws_toByteS.l0]
    rw [if_neg (by omega), set_last l 0 (by omega)]
  | succ d ih =>
    intro i hi
    refine Ev.step (f := fun k => laws_toByteS.l0 k l (l.take (i + 1) ++ List.replicate (l.length - (i + 1)) 0) ((i + 1 : Nat) : Int)) (fun k => ?_) (ih (i + 1) (by omega))
    simp only [laws_toByteS.l0]
    rw [if_pos (by omega), if_pos (by omega), if_pos (by rw [len_mid _ _ (by omega)]; omega), Int.toNat_natCast, wrS (by omega), set_next l 0 _ i (by omega) (rd_nat (by omega))]
theorem toByteS_ev (l : List Int) (h : l.length ≤ 140737488351232) : Ev (fun k => laws_toByteS.f k l) l := by
  unfold laws_toByteS.f
  rw [Int.toNat_natCast]
  simp only [if_pos (show (0 : Int) ≤ l.length by omega), if_pos (show l.length ≤ 281474976710656 by omega)]
  rw [set_first]
  exact toByteS_l0 l h l.length 0 (by omega)

/-! ### eqByteS -/
theorem eqByteS_l0 (l : List Int) (h : l.length ≤ 140737488351232) (d : Nat) : ∀ i : Nat, i + d = l.length → Ev (fun k => laws_eqByteS.l0 k l l (i : Int)) true := by
  induction d with
  | zero =>
    intro i hi
    refine Ev.step1 fun k => ?_
    simp only [laws_eqByteS.l0]
    rw [if_neg (by omega)]
  | succ d ih =>
    intro i hi
    refine Ev.step (f := fun k => laws_eqByteS.l0 k l l ((i + 1 : Nat) : Int)) (fun k => ?_) (ih (i + 1) (by omega))
    simp only [laws_eqByteS.l0]
    rw [if_pos (by omega), if_pos (by omega), if_pos (by omega), if_pos trivial, wrS (by omega)]
theorem eqByteS_self (l : List Int) (h : l.length ≤ 140737488351232) : Ev (fun k => laws_eqByteS.f k l l) true := by
  unfold laws_eqByteS.f
  simp only [if_pos trivial]
  exact eqByteS_l0 l h l.length 0 (by omega)

/-! ### szByteS -/
theorem szByteS_some (b : List Int) (n : Int) : ∃ r, laws_szByteS.f b n = some r := by
  unfold laws_szByteS.f
  split <;> exact ⟨_, rfl⟩

/-! ### sheetS -/
def cv_Sheet (x : S143) : S122 := ⟨x.f0⟩
theorem rds_Sheet (l : List S143) {i : Nat} (h : i < l.length) : rd_T143 l (i : Int) = l[i] := by unfold rd_T143; rw [Int.toNat_natCast]; exact getD_lt _ _ h
theorem rdd_Sheet (l : List S122) {i : Nat} (h : i < l.length) : rd_T122 l (i : Int) = l[i] := by unfold rd_T122; rw [Int.toNat_natCast]; exact getD_lt _ _ h
/-- Every element's bytes are few enough. -/
def short_Sheet (l : List S143) : Prop := ∀ x ∈ l, x.f0.length ≤ 140737488351232
def shortD_Sheet (l : List S122) : Prop := ∀ x ∈ l, x.f0.length ≤ 140737488351232
theorem shortD_map_Sheet {l : List S143} (h : short_Sheet l) : shortD_Sheet (l.map cv_Sheet) := by
  intro x hx
  obtain ⟨y, hy, rfl⟩ := List.mem_map.1 hx
  exact h y hy
theorem toSheet_ev (b : List Int) (h : b.length ≤ 140737488351232) : Ev (fun k => laws_toSheet.f k b) b := by
  unfold laws_toSheet.f
  exact Ev.bind (toByteS_ev b h) (Ev.now _)
theorem toSheetS_l0 (l : List S143) (h : l.length ≤ 5864062014634) (hs : short_Sheet l) (d : Nat) : ∀ i : Nat, i + d = l.length →
    Ev (fun k => laws_toSheetS.l0 k l ((l.map cv_Sheet).take i ++ List.replicate ((l.map cv_Sheet).length - i) z122) (i : Int)) (l.map cv_Sheet) := by
  have hm : (l.map cv_Sheet).length = l.length := List.length_map ..
  induction d with
  | zero =>
    intro i hi
    refine Ev.step1 fun k => ?_
    simp only [laws_toSheetS.l0]
    rw [if_neg (by omega), set_last (l.map cv_Sheet) _ (by omega)]
  | succ d ih =>
    intro i hi
    have hlt : i < l.length := by omega
    have hL : ((l.map cv_Sheet).take i ++ List.replicate ((l.map cv_Sheet).length - i) z122).length = (l.map cv_Sheet).length := len_mid _ _ (by omega)
    refine Ev.step (f := fun k => (laws_toSheet.f k l[i].f0).bind fun t => (if (i : Int) < (((l.map cv_Sheet).take i ++ List.replicate ((l.map cv_Sheet).length - i) z122).length : Int) then (laws_toSheetS.l0 k l (((l.map cv_Sheet).take i ++ List.replicate ((l.map cv_Sheet).length - i) z122).set i (⟨t⟩ : S122)) ((i + 1 : Nat) : Int)) else (none))) (fun k => ?_) (Ev.bind (toSheet_ev l[i].f0 (hs _ (List.getElem_mem hlt))) ?_)
    · simp only [laws_toSheetS.l0]
      rw [if_pos (by omega), if_pos (by omega), rds_Sheet l hlt, Int.toNat_natCast, wrS (by omega)]
    · simp only [if_pos (show (i : Int) < (((l.map cv_Sheet).take i ++ List.replicate ((l.map cv_Sheet).length - i) z122).length : Int) by rw [hL]; omega)]
      rw [set_next (l.map cv_Sheet) _ _ i (by omega) (by rw [List.getElem_map]; rfl)]
      exact ih (i + 1) (by omega)
theorem toSheetS_ev (l : List S143) (h : l.length ≤ 5864062014634) (hs : short_Sheet l) : Ev (fun k => laws_toSheetS.f k l) (l.map cv_Sheet) := by
  unfold laws_toSheetS.f
  rw [Int.toNat_natCast]
  simp only [if_pos (show (0 : Int) ≤ l.length by omega), if_pos (show l.length ≤ 11728124029610 by omega)]
  have := toSheetS_l0 l h hs l.length 0 (by omega)
  rw [← set_first, List.length_map] at this
  exact this
theorem eqSheet_self (b : List Int) (h : b.length ≤ 140737488351232) : Ev (fun k => laws_eqSheet.f k b b) true := by
  unfold laws_eqSheet.f
  try simp only [if_true]
  refine Ev.bind (eqByteS_self b h) (Ev.one ?_)
  rw [if_pos rfl]
theorem eqSheetS_l0 (l : List S122) (h : l.length ≤ 5864062014634) (hs : shortD_Sheet l) (d : Nat) : ∀ i : Nat, i + d = l.length → Ev (fun k => laws_eqSheetS.l0 k l l (i : Int)) true := by
  induction d with
  | zero =>
    intro i hi
    refine Ev.step1 fun k => ?_
    simp only [laws_eqSheetS.l0]
    rw [if_neg (by omega)]
  | succ d ih =>
    intro i hi
    have hlt : i < l.length := by omega
    refine Ev.step (f := fun k => (laws_eqSheet.f k l[i].f0 l[i].f0).bind fun t => (if t = true then (laws_eqSheetS.l0 k l l ((i + 1 : Nat) : Int)) else (some false))) (fun k => ?_) (Ev.bind (eqSheet_self l[i].f0 (hs _ (List.getElem_mem hlt))) ?_)
    · simp only [laws_eqSheetS.l0]
      rw [if_pos (by omega), if_pos (by omega), if_pos (by omega), rdd_Sheet l hlt, wrS (by omega)]
    · simp only [if_true]
      exact ih (i + 1) (by omega)
theorem eqSheetS_self (l : List S122) (h : l.length ≤ 5864062014634) (hs : shortD_Sheet l) : Ev (fun k => laws_eqSheetS.f k l l) true := by
  unfold laws_eqSheetS.f
  simp only [if_pos trivial]
  exact eqSheetS_l0 l h hs l.length 0 (by omega)
theorem szSheet_some (b : List Int) (n : Int) : ∃ r, laws_szSheet.f b n = some r := by
  unfold laws_szSheet.f
  obtain ⟨r, hr⟩ := szByteS_some b n
  rw [hr]
  simp only [Option.bind_some]
  split <;> exact ⟨_, rfl⟩
theorem szSheetS_l0 (l : List S143) (h : l.length ≤ 5864062014634) (d : Nat) : ∀ (i : Nat) (n : Int), i + d = l.length → ∃ r, Ev (fun k => laws_szSheetS.l0 k l n (i : Int)) r := by
  induction d with
  | zero =>
    intro i n hi
    refine ⟨n, Ev.step1 fun k => ?_⟩
    simp only [laws_szSheetS.l0]
    rw [if_neg (by omega)]
  | succ d ih =>
    intro i n hi
    have hlt : i < l.length := by omega
    obtain ⟨q, hq⟩ := szSheet_some l[i].f0 n
    by_cases c : q < 0
    · refine ⟨-1, Ev.step1 fun k => ?_⟩
      simp only [laws_szSheetS.l0]
      rw [if_pos (by omega), if_pos (by omega), rds_Sheet l hlt, hq]
      simp only [Option.bind_some]
      rw [if_pos c]
    · obtain ⟨r, hr⟩ := ih (i + 1) q (by omega)
      refine ⟨r, Ev.step (fun k => ?_) hr⟩
      simp only [laws_szSheetS.l0]
      rw [if_pos (by omega), if_pos (by omega), rds_Sheet l hlt, hq]
      simp only [Option.bind_some]
      rw [if_neg c, wrS (by omega)]
theorem szSheetS_some (l : List S143) (h : l.length ≤ 5864062014634) (n : Int) : ∃ r, Ev (fun k => laws_szSheetS.f k l n) r := by
  unfold laws_szSheetS.f
  by_cases c : wrap64 (n - (l.length : Int)) < 0
  · simp only [if_pos c]; exact ⟨_, Ev.now _⟩
  · simp only [if_neg c]; exact szSheetS_l0 l h l.length 0 _ (by omega)

/-! ### writeS -/
def cv_Write (x : S145) : S124 := ⟨x.f0, x.f1⟩
theorem rds_Write (l : List S145) {i : Nat} (h : i < l.length) : rd_T145 l (i : Int) = l[i] := by unfold rd_T145; rw [Int.toNat_natCast]; exact getD_lt _ _ h
theorem rdd_Write (l : List S124) {i : Nat} (h : i < l.length) : rd_T124 l (i : Int) = l[i] := by unfold rd_T124; rw [Int.toNat_natCast]; exact getD_lt _ _ h
/-- Every element's bytes are few enough. -/
def short_Write (l : List S145) : Prop := ∀ x ∈ l, x.f1.length ≤ 140737488351232
def shortD_Write (l : List S124) : Prop := ∀ x ∈ l, x.f1.length ≤ 140737488351232
theorem shortD_map_Write {l : List S145} (h : short_Write l) : shortD_Write (l.map cv_Write) := by
  intro x hx
  obtain ⟨y, hy, rfl⟩ := List.mem_map.1 hx
  exact h y hy
theorem toWrite_ev (a0 : Int) (b : List Int) (h : b.length ≤ 140737488351232) : Ev (fun k => laws_toWrite.f k a0 b) (a0, b) := by
  unfold laws_toWrite.f
  exact Ev.bind (toByteS_ev b h) (Ev.now _)
theorem toWriteS_l0 (l : List S145) (h : l.length ≤ 4398046510976) (hs : short_Write l) (d : Nat) : ∀ i : Nat, i + d = l.length →
    Ev (fun k => laws_toWriteS.l0 k l ((l.map cv_Write).take i ++ List.replicate ((l.map cv_Write).length - i) z124) (i : Int)) (l.map cv_Write) := by
  have hm : (l.map cv_Write).length = l.length := List.length_map ..
  induction d with
  | zero =>
    intro i hi
    refine Ev.step1 fun k => ?_
    simp only [laws_toWriteS.l0]
    rw [if_neg (by omega), set_last (l.map cv_Write) _ (by omega)]
  | succ d ih =>
    intro i hi
    have hlt : i < l.length := by omega
    have hL : ((l.map cv_Write).take i ++ List.replicate ((l.map cv_Write).length - i) z124).length = (l.map cv_Write).length := len_mid _ _ (by omega)
    refine Ev.step (f := fun k => (laws_toWrite.f k l[i].f0 l[i].f1).bind fun t => (if (i : Int) < (((l.map cv_Write).take i ++ List.replicate ((l.map cv_Write).length - i) z124).length : Int) then (laws_toWriteS.l0 k l (((l.map cv_Write).take i ++ List.replicate ((l.map cv_Write).length - i) z124).set i (⟨t.1, t.2⟩ : S124)) ((i + 1 : Nat) : Int)) else (none))) (fun k => ?_) (Ev.bind (toWrite_ev l[i].f0 l[i].f1 (hs _ (List.getElem_mem hlt))) ?_)
    · simp only [laws_toWriteS.l0]
      rw [if_pos (by omega), if_pos (by omega), rds_Write l hlt, Int.toNat_natCast, wrS (by omega)]
    · simp only [if_pos (show (i : Int) < (((l.map cv_Write).take i ++ List.replicate ((l.map cv_Write).length - i) z124).length : Int) by rw [hL]; omega)]
      rw [set_next (l.map cv_Write) _ _ i (by omega) (by rw [List.getElem_map]; rfl)]
      exact ih (i + 1) (by omega)
theorem toWriteS_ev (l : List S145) (h : l.length ≤ 4398046510976) (hs : short_Write l) : Ev (fun k => laws_toWriteS.f k l) (l.map cv_Write) := by
  unfold laws_toWriteS.f
  rw [Int.toNat_natCast]
  simp only [if_pos (show (0 : Int) ≤ l.length by omega), if_pos (show l.length ≤ 8796093022208 by omega)]
  have := toWriteS_l0 l h hs l.length 0 (by omega)
  rw [← set_first, List.length_map] at this
  exact this
theorem eqWrite_self (a0 : Int) (b : List Int) (h : b.length ≤ 140737488351232) : Ev (fun k => laws_eqWrite.f k a0 b a0 b) true := by
  unfold laws_eqWrite.f
  try simp only [if_true]
  refine Ev.bind (eqByteS_self b h) (Ev.one ?_)
  rw [if_pos rfl]
theorem eqWriteS_l0 (l : List S124) (h : l.length ≤ 4398046510976) (hs : shortD_Write l) (d : Nat) : ∀ i : Nat, i + d = l.length → Ev (fun k => laws_eqWriteS.l0 k l l (i : Int)) true := by
  induction d with
  | zero =>
    intro i hi
    refine Ev.step1 fun k => ?_
    simp only [laws_eqWriteS.l0]
    rw [if_neg (by omega)]
  | succ d ih =>
    intro i hi
    have hlt : i < l.length := by omega
    refine Ev.step (f := fun k => (laws_eqWrite.f k l[i].f0 l[i].f1 l[i].f0 l[i].f1).bind fun t => (if t = true then (laws_eqWriteS.l0 k l l ((i + 1 : Nat) : Int)) else (some false))) (fun k => ?_) (Ev.bind (eqWrite_self l[i].f0 l[i].f1 (hs _ (List.getElem_mem hlt))) ?_)
    · simp only [laws_eqWriteS.l0]
      rw [if_pos (by omega), if_pos (by omega), if_pos (by omega), rdd_Write l hlt, wrS (by omega)]
    · simp only [if_true]
      exact ih (i + 1) (by omega)
theorem eqWriteS_self (l : List S124) (h : l.length ≤ 4398046510976) (hs : shortD_Write l) : Ev (fun k => laws_eqWriteS.f k l l) true := by
  unfold laws_eqWriteS.f
  simp only [if_pos trivial]
  exact eqWriteS_l0 l h hs l.length 0 (by omega)
theorem szWrite_some (a0 : Int) (b : List Int) (n : Int) : ∃ r, laws_szWrite.f a0 b n = some r := by
  unfold laws_szWrite.f
  obtain ⟨r, hr⟩ := szByteS_some b n
  rw [hr]
  simp only [Option.bind_some]
  split <;> exact ⟨_, rfl⟩
theorem szWriteS_l0 (l : List S145) (h : l.length ≤ 4398046510976) (d : Nat) : ∀ (i : Nat) (n : Int), i + d = l.length → ∃ r, Ev (fun k => laws_szWriteS.l0 k l n (i : Int)) r := by
  induction d with
  | zero =>
    intro i n hi
    refine ⟨n, Ev.step1 fun k => ?_⟩
    simp only [laws_szWriteS.l0]
    rw [if_neg (by omega)]
  | succ d ih =>
    intro i n hi
    have hlt : i < l.length := by omega
    obtain ⟨q, hq⟩ := szWrite_some l[i].f0 l[i].f1 n
    by_cases c : q < 0
    · refine ⟨-1, Ev.step1 fun k => ?_⟩
      simp only [laws_szWriteS.l0]
      rw [if_pos (by omega), if_pos (by omega), rds_Write l hlt, hq]
      simp only [Option.bind_some]
      rw [if_pos c]
    · obtain ⟨r, hr⟩ := ih (i + 1) q (by omega)
      refine ⟨r, Ev.step (fun k => ?_) hr⟩
      simp only [laws_szWriteS.l0]
      rw [if_pos (by omega), if_pos (by omega), rds_Write l hlt, hq]
      simp only [Option.bind_some]
      rw [if_neg c, wrS (by omega)]
theorem szWriteS_some (l : List S145) (h : l.length ≤ 4398046510976) (n : Int) : ∃ r, Ev (fun k => laws_szWriteS.f k l n) r := by
  unfold laws_szWriteS.f
  by_cases c : wrap64 (n - (l.length : Int)) < 0
  · simp only [if_pos c]; exact ⟨_, Ev.now _⟩
  · simp only [if_neg c]; exact szWriteS_l0 l h l.length 0 _ (by omega)

/-! ### diskS -/
theorem toDisk_ev (ss : List S143) (ds : List S145) (h1 : ss.length ≤ 5864062014634) (h2 : ds.length ≤ 4398046510976) (k1 : short_Sheet ss) (k2 : short_Write ds) : Ev (fun k => laws_toDisk.f k ss ds) (ss.map cv_Sheet, ds.map cv_Write) := by
  unfold laws_toDisk.f
  exact Ev.bind (toSheetS_ev ss h1 k1) (Ev.bind (toWriteS_ev ds h2 k2) (Ev.now _))
theorem eqDisk_self (ss : List S122) (ds : List S124) (h1 : ss.length ≤ 5864062014634) (h2 : ds.length ≤ 4398046510976) (k1 : shortD_Sheet ss) (k2 : shortD_Write ds) : Ev (fun k => laws_eqDisk.f k ss ds ss ds) true := by
  unfold laws_eqDisk.f
  refine Ev.bind (eqSheetS_self ss h1 k1) ?_
  simp only [if_true]
  refine Ev.bind (eqWriteS_self ds h2 k2) (Ev.one ?_)
  rw [if_pos rfl]
theorem szDisk_some (ss : List S143) (ds : List S145) (h1 : ss.length ≤ 5864062014634) (h2 : ds.length ≤ 4398046510976) (n : Int) : ∃ r, Ev (fun k => laws_szDisk.f k ss ds n) r := by
  unfold laws_szDisk.f
  obtain ⟨r1, e1⟩ := szSheetS_some ss h1 n
  by_cases c1 : r1 < 0
  · refine ⟨-1, Ev.bind e1 ?_⟩
    simp only [if_pos c1]; exact Ev.now _
  obtain ⟨r2, e2⟩ := szWriteS_some ds h2 r1
  by_cases c2 : r2 < 0
  · refine ⟨-1, Ev.bind e1 ?_⟩
    simp only [if_neg c1]
    refine Ev.bind e2 ?_
    simp only [if_pos c2]; exact Ev.now _
  · refine ⟨r2, Ev.bind e1 ?_⟩
    simp only [if_neg c1]
    refine Ev.bind e2 ?_
    simp only [if_neg c2]; exact Ev.now _

/-! ### l01Num -/
theorem l01Num_eq (n : Int) : spec_l01Num.f n = some (decide (0 ≤ n ∧ n ≤ 1099511627775)) := by
  unfold spec_l01Num.f
  by_cases h : n ≥ 0
  · rw [if_pos h]; simp [h]
  · rw [if_neg h]; simp; omega

/-! ### metaOk -/
def metaOk (g r : Int) : Prop := (1 ≤ g ∧ g ≤ 1099511627775) ∧ (r = 0 ∨ (2 ≤ r ∧ r ≤ 399))
instance (g r : Int) : Decidable (metaOk g r) := inferInstanceAs (Decidable (_ ∧ _))
theorem spec_MetaOk_eq (g r : Int) : spec_MetaOk.f g r = some (decide (metaOk g r)) := by
  unfold spec_MetaOk.f
  by_cases h : g ≥ 1
  · rw [if_pos h, l01Num_eq]
    simp only [Option.bind_some, decide_eq_true_eq]
    by_cases h2 : 0 ≤ g ∧ g ≤ 1099511627775
    · rw [if_pos h2]
      by_cases h3 : r = 0
      · rw [if_pos h3]; exact sdt ⟨by omega, .inl h3⟩
      · rw [if_neg h3]
        by_cases h4 : r ≥ 2
        · rw [if_pos h4]; exact sd (by unfold metaOk; omega)
        · rw [if_neg h4]; exact sdf (by unfold metaOk; omega)
    · rw [if_neg h2]; exact sdf (by unfold metaOk; omega)
  · rw [if_neg h]; exact sdf (by unfold metaOk; omega)
theorem impl_MetaOk_eq (g r : Int) : impl_MetaOk.f g r = some (decide (metaOk g r)) := by
  unfold impl_MetaOk.f
  rw [within_eq, within_eq]
  simp only [Option.bind_some, decide_eq_true_eq]
  by_cases h2 : 1 ≤ g ∧ g ≤ 1099511627775
  · rw [if_pos h2]
    by_cases h3 : r = 0
    · rw [if_pos h3]; exact sdt ⟨h2, .inl h3⟩
    · rw [if_neg h3]; exact sd (by unfold metaOk; omega)
  · rw [if_neg h2]; exact sdf (by unfold metaOk; omega)

/-! ### fillD -/
def fill (b : List Int) (n : Int) : List Int × Bool := if 0 ≤ n ∧ n ≤ 4096 ∧ (b.length : Int) ≤ n then (b ++ List.replicate (n.toNat - b.length) 0, true) else ([], false)
theorem fill_len (b : List Int) (n : Int) : (fill b n).1.length ≤ 4096 := by
  unfold fill
  split
  · rename_i h; simp; omega
  · simp

/-! ### specFill -/
theorem spec_Fill_eq (b : List Int) (n : Int) : spec_Fill.f b n = some (fill b n) := by
  unfold spec_Fill.f fill
  by_cases c1 : n < 0
  · rw [if_pos c1, if_neg (by omega)]
  rw [if_neg c1]
  by_cases c2 : n > 4096
  · rw [if_pos c2, if_neg (by omega)]
  rw [if_neg c2]
  by_cases c3 : (b.length : Int) > n
  · rw [if_pos c3, if_neg (by omega)]
  rw [if_neg c3, if_pos (by omega)]
  simp only [Option.bind_some, List.nil_append, List.length_nil, Nat.zero_add]
  have e : (n - (b.length : Int)).toNat = n.toNat - b.length := by omega
  rw [if_pos (by omega), wr (by omega) (by omega), if_pos (by omega), if_pos (by omega), e]

/-! ### implFill -/
theorem impl_Fill_eq (b : List Int) (n : Int) : impl_Fill.f b n = some (fill b n) := by
  unfold impl_Fill.f fill
  rw [within_eq]
  simp only [Option.bind_some]
  by_cases c1 : 0 ≤ n ∧ n ≤ 4096
  · rw [if_pos (decide_eq_true c1)]
    by_cases c3 : (b.length : Int) > n
    · rw [if_pos c3, if_neg (by omega)]
    rw [if_neg c3, if_pos (show 0 ≤ n ∧ n ≤ 4096 ∧ (b.length : Int) ≤ n by omega), if_pos (by omega), if_pos (by omega)]
    rw [if_pos (by simp; omega), List.drop_replicate]
  · rw [if_neg (fun e => c1 (of_decide_eq_true e)), if_neg (by omega)]

/-! ### metaBytes -/
def five (n : Int) : List Int := [n / 4294967296 % 256, n / 16777216 % 256, n / 65536 % 256, n / 256 % 256, n % 256]
def metaB (g r : Int) : List Int := [77] ++ five g ++ [r / 256 % 256, r % 256] ++ List.replicate 499 0 ++ five g
def metaBytes (g r : Int) : List Int × Bool := if metaOk g r then (metaB g r, true) else ([], false)
theorem metaB_len (g r : Int) : (metaB g r).length = 512 := by simp only [metaB, five, List.length_append, List.length_replicate, List.length_cons, List.length_nil]
theorem metaBytes_len (g r : Int) : (metaBytes g r).1.length ≤ 512 := by
  unfold metaBytes
  split
  · rw [metaB_len]; exact Nat.le_refl _
  · simp
theorem five_step (n : Int) (h0 : 0 ≤ n) (h1 : n ≤ 1099511627775) (i : Nat) (acc : List Int) (w : Int) (hi : i < 5) (hw : rd ([4294967296, 16777216, 65536, 256, 1] : List Int) (i : Int) = w) (hp : 0 < w) (ha : acc.length ≤ 10) (k : Nat) :
    spec_l04Five.l0 (k + 1) n acc ([4294967296, 16777216, 65536, 256, 1] : List Int) 5 (i : Int) = spec_l04Five.l0 k n (acc ++ [n / w % 256]) ([4294967296, 16777216, 65536, 256, 1] : List Int) 5 ((i + 1 : Nat) : Int) := by
  have hd : 0 ≤ n / w := Int.ediv_nonneg h0 (by omega)
  have hd2 : n / w ≤ n := Int.ediv_le_self _ h0
  simp only [spec_l04Five.l0]
  rw [if_pos (by omega), if_pos (by omega), if_pos (by simp; omega), hw, if_neg (by omega), if_pos (by omega), wrS (by omega), tdiv_pos h0, wr (by omega) (by omega), tmod_pos hd, Int.emod_emod_of_dvd _ (Int.dvd_refl _)]
theorem spec_five (n : Int) (h0 : 0 ≤ n) (h1 : n ≤ 1099511627775) : Ev (fun k => spec_l04Five.f k n) (five n) := by
  unfold spec_l04Five.f
  simp only [Option.bind_some]
  refine Ev.step (five_step n h0 h1 0 [] 4294967296 (by omega) rfl (by omega) (by simp)) ?_
  refine Ev.step (five_step n h0 h1 1 _ 16777216 (by omega) rfl (by omega) (by simp)) ?_
  refine Ev.step (five_step n h0 h1 2 _ 65536 (by omega) rfl (by omega) (by simp)) ?_
  refine Ev.step (five_step n h0 h1 3 _ 256 (by omega) rfl (by omega) (by simp)) ?_
  refine Ev.step (five_step n h0 h1 4 _ 1 (by omega) rfl (by omega) (by simp)) ?_
  refine Ev.step1 fun k => ?_
  simp only [spec_l04Five.l0]
  rw [if_neg (by decide)]
  simp [five]
/-- A number in m bytes, the highest first. -/
def be (n : Int) : Nat → List Int
  | 0 => []
  | m + 1 => (n / 2 ^ (8 * m) % 256) :: be n m
theorem be_len (n : Int) (m : Nat) : (be n m).length = m := by induction m with
  | zero => rfl
  | succ m ih => simp [be, ih]
theorem high_l0 (n : Int) (m : Nat) : ∀ acc : List Int, m ≤ 8 → acc.length + m ≤ 100000 → Ev (fun k => impl_high.l0 k acc n ((m : Int) - 1)) (acc ++ be n m) := by
  induction m with
  | zero =>
    intro acc _ _
    refine Ev.step1 fun k => ?_
    simp only [impl_high.l0]
    rw [if_neg (by omega)]
    simp [be]
  | succ m ih =>
    intro acc hm ha
    refine Ev.step (fun k => ?_) (by have := ih (acc ++ [n / 2 ^ (8 * m) % 256]) (by omega) (by simp; omega); rw [List.append_assoc] at this; exact this)
    simp only [impl_high.l0]
    have e : ((m + 1 : Nat) : Int) - 1 = (m : Int) := by omega
    have e2 : shr .i64 n (8 * (m : Int)) = n / 2 ^ (8 * m) := by
      unfold shr
      rw [Nat.min_eq_left (show (8 * (m : Int)).toNat ≤ IntKind.i64.bits from (show (8 * (m : Int)).toNat ≤ 64 by omega)), show (8 * (m : Int)).toNat = 8 * m by omega]
    rw [e, if_pos (by omega), wr (n := 8 * (m : Int)) (by omega) (by omega), if_pos (by omega), if_pos (by omega), e2, wr (by omega) (by omega)]
theorem high_ev (acc : List Int) (n : Int) (m : Nat) (hm : m ≤ 8) (ha : acc.length ≤ 10000) : Ev (fun k => impl_high.f k acc n (m : Int)) (acc ++ be n m) := by
  unfold impl_high.f
  rw [wr (by omega) (by omega)]
  exact high_l0 n m acc hm (by omega)
theorem be5 (n : Int) : be n 5 = five n := by simp [be, five]
theorem be2 (n : Int) : be n 2 = [n / 256 % 256, n % 256] := by simp [be]
theorem fill8 (l : List Int) (h : l.length = 8) : fill l 507 = (l ++ List.replicate 499 0, true) := by
  unfold fill
  rw [if_pos (by omega), h]
  rfl
theorem spec_MetaBytes_ev (g r : Int) : Ev (fun k => spec_MetaBytes.f k g r) (metaBytes g r) := by
  unfold spec_MetaBytes.f metaBytes
  rw [spec_MetaOk_eq]
  simp only [Option.bind_some]
  by_cases c : metaOk g r
  · have hg := c.1
    have hr : 0 ≤ r ∧ r ≤ 399 := by have := c.2; omega
    rw [if_pos c]
    simp only [if_pos (decide_eq_true c)]
    have h5 := spec_five g (by omega) hg.2
    refine Ev.bind h5 ?_
    simp only [if_pos (show ([77] : List Int).length + (five g).length < 140737488355328 by simp only [five, List.length_cons, List.length_nil]; omega)]
    have e1 : (wrap64 (Int.tdiv r 256)) % 256 = r / 256 % 256 := by rw [tdiv_pos hr.1, wr (by omega) (by omega)]
    have e2 : (Int.tmod r 256) % 256 = r % 256 := by rw [tmod_pos hr.1, Int.emod_emod_of_dvd _ (Int.dvd_refl _)]
    simp only [e1, e2]
    simp only [if_pos (show ([77] ++ five g : List Int).length + ([r / 256 % 256, r % 256] : List Int).length < 140737488355328 by simp [five])]
    rw [spec_Fill_eq, fill8 _ (by simp [five])]
    simp only [Option.bind_some]
    refine Ev.bind h5 (Ev.one ?_)
    rw [if_pos (by simp only [five, List.length_append, List.length_replicate, List.length_cons, List.length_nil]; omega)]
    rfl
  · simp only [if_neg (fun e => c (of_decide_eq_true e))]
    rw [if_neg c]
    exact Ev.now _
theorem impl_MetaBytes_ev (g r : Int) : Ev (fun k => impl_MetaBytes.f k g r) (metaBytes g r) := by
  unfold impl_MetaBytes.f metaBytes
  rw [impl_MetaOk_eq]
  simp only [Option.bind_some]
  by_cases c : metaOk g r
  · rw [if_pos c]
    simp only [if_pos (decide_eq_true c)]
    refine Ev.bind (high_ev [77] g 5 (by omega) (by decide)) (Ev.bind (high_ev _ r 2 (by omega) (by simp [be_len])) ?_)
    rw [be5, be2, impl_Fill_eq, fill8 _ (by simp [five])]
    simp only [Option.bind_some]
    refine Ev.bind (high_ev _ g 5 (by omega) (by simp only [five, List.length_append, List.length_replicate, List.length_cons, List.length_nil]; omega)) (Ev.one ?_)
    rw [be5]
    rfl
  · simp only [if_neg (fun e => c (of_decide_eq_true e))]
    rw [if_neg c]
    exact Ev.now _

/-! ### metaRead -/
theorem five_byt (n : Int) : Byt (five n) := by
  intro x hx
  simp only [five, List.mem_cons, List.not_mem_nil, or_false] at hx
  rcases hx with rfl | rfl | rfl | rfl | rfl <;> omega
theorem metaB_byt (g r : Int) : Byt (metaB g r) := by
  refine (((Byt.one (by omega)).app (five_byt g)).app (Byt.cons (by omega) (Byt.one (by omega)))).app (fun x hx => by rw [(List.mem_replicate.1 hx).2]; omega) |>.app (five_byt g)
def mgen (b : List Int) : Int := ((((0 * 256 + rd b 1) * 256 + rd b 2) * 256 + rd b 3) * 256 + rd b 4) * 256 + rd b 5
def mroot (b : List Int) : Int := rd b 6 * 256 + rd b 7
def metaRead (b : List Int) : Int × Int × Bool := if b.length = 512 ∧ metaOk (mgen b) (mroot b) ∧ metaB (mgen b) (mroot b) = b then (mgen b, mroot b, true) else (0, 0, false)
theorem impl_mr_end (b : List Int) (hb : Byt b) (hl : b.length = 512) : Ev (fun k => (impl_MetaBytes.f k (mgen b) (mroot b)).bind fun t => (if t.2 = true then (if (strOfNums t.1).toList = (strOfNums b).toList then (some (mgen b, mroot b, true)) else (some (0, 0, false))) else (some (0, 0, false)))) (metaRead b) := by
  refine Ev.bind (impl_MetaBytes_ev _ _) (Ev.one ?_)
  unfold metaBytes metaRead
  by_cases c : metaOk (mgen b) (mroot b)
  · simp only [if_pos c, if_true]
    simp only [sonl_inj (metaB_byt _ _) hb]
    by_cases c2 : metaB (mgen b) (mroot b) = b
    · rw [if_pos c2, if_pos ⟨hl, c, c2⟩]
    · rw [if_neg c2, if_neg (fun f => c2 f.2.2)]
  · simp only [if_neg c, Bool.false_eq_true, if_false]
    rw [if_neg (fun f => c f.2.1)]
theorem impl_mr_step (b xs : List Int) (hb : Byt xs) (hl : xs.length = 5) (i : Nat) (hi : i < 5) (g r : Int) (hg : 0 ≤ g) (hg2 : g ≤ 1125899906842624) (k : Nat) :
    impl_MetaRead.l0 (k + 1) b xs 5 (i : Int) g r = impl_MetaRead.l0 k b xs 5 ((i + 1 : Nat) : Int) (g * 256 + rd xs (i : Int)) r := by
  have hr := rd_byt hb (i : Int)
  simp only [impl_MetaRead.l0]
  rw [if_pos (by omega), if_pos (by omega), if_pos (by omega), wrS (by omega), wr (n := g * 256) (by omega) (by omega), wr (n := rd xs (i : Int)) (by omega) (by omega), or_byte hg hg2 hr.1 hr.2]
theorem impl_MetaRead_ev (b : List Int) (hb : Byt b) : Ev (fun k => impl_MetaRead.f k b) (metaRead b) := by
  unfold impl_MetaRead.f
  by_cases c : (b.length : Int) = 512
  · have hl : b.length = 512 := by omega
    simp only [if_pos c, if_pos (show (6 : Int) < (b.length : Int) by omega), if_pos (show (7 : Int) < (b.length : Int) by omega), if_pos (show (1 : Int) ≤ 6 by omega), if_pos (show (6 : Int) ≤ (b.length : Int) by omega)]
    have h6 := rd_byt hb 6
    have h7 := rd_byt hb 7
    have h1 := rd_byt hb 1
    have h2 := rd_byt hb 2
    have h3 := rd_byt hb 3
    have h4 := rd_byt hb 4
    have h5 := rd_byt hb 5
    have hx : ((b.take 6).drop 1).length = 5 := by rw [List.length_drop, List.length_take]; omega
    have hxb : Byt ((b.take 6).drop 1) := fun x hx => hb x (List.mem_of_mem_take (List.mem_of_mem_drop hx))
    have hrd : ∀ j : Nat, j < 5 → rd ((b.take 6).drop 1) (j : Int) = rd b ((j + 1 : Nat) : Int) := fun j hj => by
      rw [rd_nat (by omega), rd_nat (by omega), List.getElem_drop, List.getElem_take]
      congr 1
      omega
    simp only [Option.bind_some]
    rw [wr (n := rd b 6) (by omega) (by omega), wr (n := rd b 7) (by omega) (by omega), wr (n := rd b 6 * 256) (by omega) (by omega), or_byte h6.1 (by omega) h7.1 h7.2, show (((b.take 6).drop 1).length : Int) = 5 by omega]
    refine Ev.step (impl_mr_step b _ hxb hx 0 (by omega) 0 _ (by omega) (by omega)) ?_
    rw [hrd 0 (by omega)]
    refine Ev.step (impl_mr_step b _ hxb hx 1 (by omega) _ _ (by simp; omega) (by simp; omega)) ?_
    rw [hrd 1 (by omega)]
    refine Ev.step (impl_mr_step b _ hxb hx 2 (by omega) _ _ (by simp; omega) (by simp; omega)) ?_
    rw [hrd 2 (by omega)]
    refine Ev.step (impl_mr_step b _ hxb hx 3 (by omega) _ _ (by simp; omega) (by simp; omega)) ?_
    rw [hrd 3 (by omega)]
    refine Ev.step (impl_mr_step b _ hxb hx 4 (by omega) _ _ (by simp; omega) (by simp; omega)) ?_
    rw [hrd 4 (by omega)]
    refine Ev.step (fun k => ?_) (impl_mr_end b hb hl)
    simp only [impl_MetaRead.l0]
    rw [if_neg (by decide)]
    rfl
  · simp only [if_neg c]
    have : metaRead b = (0, 0, false) := by unfold metaRead; rw [if_neg (fun f => c (by have := f.1; omega))]
    rw [this]
    exact Ev.now _
theorem spec_mr_step (b : List Int) (hb : Byt b) (hl : b.length = 512) (i : Nat) (hi : i < 6) (g r : Int) (hg : 0 ≤ g) (hg2 : g ≤ 1125899906842624) (k : Nat) :
    spec_MetaRead.l0 (k + 1) b (i : Int) g r = spec_MetaRead.l0 k b ((i + 1 : Nat) : Int) (g * 256 + rd b (i : Int)) r := by
  have hr := rd_byt hb (i : Int)
  simp only [spec_MetaRead.l0]
  rw [if_pos (by omega), if_pos (by omega), if_pos (by omega), wrS (by omega), wr (n := g * 256) (by omega) (by omega), wr (n := rd b (i : Int)) (by omega) (by omega), wr (by omega) (by omega)]
theorem spec_mr_end (b : List Int) (hb : Byt b) (hl : b.length = 512) : Ev (fun k => (spec_MetaBytes.f k (mgen b) (mroot b)).bind fun t => (if t.2 = true then ((spec_l04Same.f t.1 b).bind fun s => (if s = true then (some (mgen b, mroot b, true)) else (some (0, 0, false)))) else (some (0, 0, false)))) (metaRead b) := by
  refine Ev.bind (spec_MetaBytes_ev _ _) (Ev.one ?_)
  unfold metaBytes metaRead spec_l04Same.f
  by_cases c : metaOk (mgen b) (mroot b)
  · simp only [if_pos c, if_true, Option.bind_some]
    simp only [beq_iff_eq, sonl_inj (metaB_byt _ _) hb]
    by_cases c2 : metaB (mgen b) (mroot b) = b
    · rw [if_pos c2, if_pos ⟨hl, c, c2⟩]
    · rw [if_neg c2, if_neg (fun f => c2 f.2.2)]
  · simp only [if_neg c, Bool.false_eq_true, if_false]
    rw [if_neg (fun f => c f.2.1)]
theorem spec_MetaRead_ev (b : List Int) (hb : Byt b) : Ev (fun k => spec_MetaRead.f k b) (metaRead b) := by
  unfold spec_MetaRead.f
  by_cases c : (b.length : Int) = 512
  · have hl : b.length = 512 := by omega
    simp only [if_pos c]
    have h6 := rd_byt hb 6
    have h7 := rd_byt hb 7
    have h1 := rd_byt hb 1
    have h2 := rd_byt hb 2
    have h3 := rd_byt hb 3
    have h4 := rd_byt hb 4
    have h5 := rd_byt hb 5
    refine Ev.step (spec_mr_step b hb hl 1 (by omega) 0 0 (by omega) (by omega)) ?_
    refine Ev.step (spec_mr_step b hb hl 2 (by omega) _ _ (by simp; omega) (by simp; omega)) ?_
    refine Ev.step (spec_mr_step b hb hl 3 (by omega) _ _ (by simp; omega) (by simp; omega)) ?_
    refine Ev.step (spec_mr_step b hb hl 4 (by omega) _ _ (by simp; omega) (by simp; omega)) ?_
    refine Ev.step (spec_mr_step b hb hl 5 (by omega) _ _ (by simp; omega) (by simp; omega)) ?_
    refine Ev.step (fun k => ?_) (spec_mr_end b hb hl)
    simp only [spec_MetaRead.l0]
    rw [if_neg (by decide), if_pos (by omega), if_pos (by omega), wr (n := rd b 6) (by omega) (by omega), wr (n := rd b 7) (by omega) (by omega), wr (n := rd b 6 * 256) (by omega) (by omega), wr (by omega) (by omega)]
    rfl
  · simp only [if_neg c]
    have : metaRead b = (0, 0, false) := by unfold metaRead; rw [if_neg (fun f => c (by have := f.1; omega))]
    rw [this]
    exact Ev.now _

/-! ### law_FnExactDiskMeta -/
def upd (b : Int × Int) (m : Int × Int × Bool) (a : Int) : Int × Int := if m.2.2 = true ∧ Int.tmod m.1 2 = a ∧ m.1 > b.1 then (m.1, m.2.1) else b
def bestOf (ss : List S122) (ds : List S124) : Int × Int := upd (upd (0, 0) (metaRead (pageAt ss ds 0)) 0) (metaRead (pageAt ss ds 1)) 1
noncomputable def diskMeta (ss : List S122) (ds : List S124) : Int × Int × Bool := if dec (diskOk ss ds) = true then ((bestOf ss ds).1, (bestOf ss ds).2, decide ((bestOf ss ds).1 > 0)) else (0, 0, false)
theorem metaRead_short (b : List Int) (h : b.length ≠ 512) : metaRead b = (0, 0, false) := by unfold metaRead; rw [if_neg (fun f => h f.1)]
theorem upd_ite {α : Type} (F : Int → Int → α) (b : Int × Int) (m : Int × Int × Bool) (a : Int) :
    (if m.2.2 = true then (if Int.tmod m.1 2 = a then (if m.1 > b.1 then F m.1 m.2.1 else F b.1 b.2) else F b.1 b.2) else F b.1 b.2) = F (upd b m a).1 (upd b m a).2 := by
  unfold upd
  by_cases c1 : m.2.2 = true
  · rw [if_pos c1]
    by_cases c2 : Int.tmod m.1 2 = a
    · rw [if_pos c2]
      by_cases c3 : m.1 > b.1
      · rw [if_pos c3, if_pos ⟨c1, c2, c3⟩]
      · rw [if_neg c3, if_neg (fun f => c3 f.2.2)]
    · rw [if_neg c2, if_neg (fun f => c2 f.2.1)]
  · rw [if_neg c1, if_neg (fun f => c1 f.1)]
theorem impl_dm_step {ss : List S122} {ds : List S124} (h : diskOk ss ds) (hb : BytD ss ds) (j : Nat) (hj : j < 2) (b : Int × Int) {r : Int × Int × Bool}
    (next : Ev (fun k => impl_DiskMeta.l0 k ((j + 1 : Nat) : Int) ss ds (upd b (metaRead (pageAt ss ds (j : Int))) (j : Int)).1 (upd b (metaRead (pageAt ss ds (j : Int))) (j : Int)).2) r) :
    Ev (fun k => impl_DiskMeta.l0 k (j : Int) ss ds b.1 b.2) r := by
  have hj2 : j < ss.length := by have := h.2.2.1; omega
  have e1 := impl_read_ev h j hj2
  have e2 := impl_MetaRead_ev _ (pageAt_byt hb (j : Int))
  refine Ev.step (f := fun k => (impl_Disk_read.f k ss ds (j : Int)).bind fun t => (impl_MetaRead.f k t).bind fun m => if m.2.2 = true then (if Int.tmod m.1 2 = (j : Int) then (if m.1 > b.1 then impl_DiskMeta.l0 k ((j + 1 : Nat) : Int) ss ds m.1 m.2.1 else impl_DiskMeta.l0 k ((j + 1 : Nat) : Int) ss ds b.1 b.2) else impl_DiskMeta.l0 k ((j + 1 : Nat) : Int) ss ds b.1 b.2) else impl_DiskMeta.l0 k ((j + 1 : Nat) : Int) ss ds b.1 b.2) (fun k => ?_) (Ev.bind e1 (Ev.bind e2 (Ev.eq next (fun k => upd_ite (fun x y => impl_DiskMeta.l0 k ((j + 1 : Nat) : Int) ss ds x y) b _ _))))
  simp only [impl_DiskMeta.l0]
  rw [if_pos (by omega), wrS (by omega)]
theorem spec_dm_step {ss : List S122} {ds : List S124} (h : diskOk ss ds) (h1 : ss.length ≤ 5864062014634) (h2 : ds.length ≤ 4398046510976) (hb : BytD ss ds) (j : Nat) (hj : j < 2) (b : Int × Int) {r : Int × Int × Bool}
    (next : Ev (fun k => spec_DiskMeta.l0 k ((j + 1 : Nat) : Int) ss ds (upd b (metaRead (pageAt ss ds (j : Int))) (j : Int)).1 (upd b (metaRead (pageAt ss ds (j : Int))) (j : Int)).2) r) :
    Ev (fun k => spec_DiskMeta.l0 k (j : Int) ss ds b.1 b.2) r := by
  have hj2 : j < ss.length := by have := h.2.2.1; omega
  have e1 := spec_DiskRead_ev ss ds (j : Int) h1 h2
  unfold diskRead at e1
  rw [if_pos (dec_t ⟨h, by omega, by omega⟩)] at e1
  have e2 := spec_MetaRead_ev _ (pageAt_byt hb (j : Int))
  refine Ev.step (f := fun k => (spec_DiskRead.f k ss ds (j : Int)).bind fun t => (spec_MetaRead.f k t.1).bind fun m => if t.2 = true then (if m.2.2 = true then (if Int.tmod m.1 2 = (j : Int) then (if m.1 > b.1 then spec_DiskMeta.l0 k ((j + 1 : Nat) : Int) ss ds m.1 m.2.1 else spec_DiskMeta.l0 k ((j + 1 : Nat) : Int) ss ds b.1 b.2) else spec_DiskMeta.l0 k ((j + 1 : Nat) : Int) ss ds b.1 b.2) else spec_DiskMeta.l0 k ((j + 1 : Nat) : Int) ss ds b.1 b.2) else spec_DiskMeta.l0 k ((j + 1 : Nat) : Int) ss ds b.1 b.2) (fun k => ?_) (Ev.bind e1 (Ev.bind e2 (Ev.eq next (fun k => (if_pos rfl).trans (upd_ite (fun x y => spec_DiskMeta.l0 k ((j + 1 : Nat) : Int) ss ds x y) b _ _)))))
  simp only [spec_DiskMeta.l0]
  rw [if_pos (by omega), wrS (by omega)]
theorem impl_DiskMeta_ev (ss : List S122) (ds : List S124) (h1 : ss.length ≤ 5864062014634) (h2 : ds.length ≤ 4398046510976) (hb : BytD ss ds) : Ev (fun k => impl_DiskMeta.f k ss ds) (diskMeta ss ds) := by
  unfold impl_DiskMeta.f diskMeta
  refine Ev.bind (impl_DiskOk_ev ss ds h1 h2) ?_
  by_cases c : dec (diskOk ss ds) = true
  · have h := dec_iff.1 c
    simp only [if_pos c]
    refine impl_dm_step h hb 0 (by omega) (0, 0) (impl_dm_step h hb 1 (by omega) _ (Ev.step1 fun k => ?_))
    simp only [impl_DiskMeta.l0]
    rw [if_neg (by omega)]
    rfl
  · simp only [if_neg c]
    exact Ev.now _
theorem spec_DiskMeta_ev (ss : List S122) (ds : List S124) (h1 : ss.length ≤ 5864062014634) (h2 : ds.length ≤ 4398046510976) (hb : BytD ss ds) : Ev (fun k => spec_DiskMeta.f k ss ds) (diskMeta ss ds) := by
  unfold spec_DiskMeta.f diskMeta
  by_cases c : dec (diskOk ss ds) = true
  · have h := dec_iff.1 c
    simp only [if_pos c]
    refine spec_dm_step h h1 h2 hb 0 (by omega) (0, 0) (spec_dm_step h h1 h2 hb 1 (by omega) _ (Ev.step1 fun k => ?_))
    simp only [spec_DiskMeta.l0]
    rw [if_neg (by omega)]
    rfl
  · simp only [if_neg c]
    have e1 : ∀ a, Ev (fun k => spec_DiskRead.f k ss ds a) ([], false) := fun a => by
      have := spec_DiskRead_ev ss ds a h1 h2
      unfold diskRead at this
      rwa [dec_f (fun f => c (dec_t f.1)), if_neg (by decide)] at this
    have e2 := spec_MetaRead_ev [] Byt.nil
    rw [metaRead_short [] (by decide)] at e2
    have go : ∀ (j : Nat), j < 2 → Ev (fun k => spec_DiskMeta.l0 k ((j + 1 : Nat) : Int) ss ds 0 0) (0, 0, false) → Ev (fun k => spec_DiskMeta.l0 k (j : Int) ss ds 0 0) (0, 0, false) := fun j hj next => by
      refine Ev.step (f := fun k => (spec_DiskRead.f k ss ds (j : Int)).bind fun t => (spec_MetaRead.f k t.1).bind fun m => if t.2 = true then (if m.2.2 = true then (if Int.tmod m.1 2 = (j : Int) then (if m.1 > 0 then spec_DiskMeta.l0 k ((j + 1 : Nat) : Int) ss ds m.1 m.2.1 else spec_DiskMeta.l0 k ((j + 1 : Nat) : Int) ss ds 0 0) else spec_DiskMeta.l0 k ((j + 1 : Nat) : Int) ss ds 0 0) else spec_DiskMeta.l0 k ((j + 1 : Nat) : Int) ss ds 0 0) else spec_DiskMeta.l0 k ((j + 1 : Nat) : Int) ss ds 0 0) (fun k => ?_) (Ev.bind (e1 _) (Ev.bind e2 (Ev.eq next (fun k => if_neg (by decide)))))
      simp only [spec_DiskMeta.l0]
      rw [if_pos (by omega), wrS (by omega)]
    refine go 0 (by omega) (go 1 (by omega) (Ev.step1 fun k => ?_))
    simp only [spec_DiskMeta.l0]
    rw [if_neg (by omega)]
    rfl
theorem eqMeta_self (a b : Int) : laws_eqMeta.f a b a b = some true := by
  unfold laws_eqMeta.f; rw [if_pos rfl, if_pos rfl]
theorem FnExactDiskMeta (x0_0 : List (S143)) (x0_1 : List (S145)) (g0 : G73 (x0_0, x0_1)) : ∃ k, laws_FnExactDiskMeta.f k x0_0 x0_1 = some true := by
  have h1 : x0_0.length ≤ 5864062014634 := by have : x0_0.length * 24 ≤ 140737488351232 := g0.1.1; omega
  have h2 : x0_1.length ≤ 4398046510976 := by have : x0_1.length * 32 ≤ 140737488351232 := g0.2.1; omega
  have k1 : short_Sheet x0_0 := fun x hx => by have : x.f0.length * 1 ≤ 140737488351232 := (g0.1.2 x hx).1; omega
  have k2 : short_Write x0_1 := fun x hx => by have : x.f1.length * 1 ≤ 140737488351232 := (g0.2.2 x hx).2.1; omega
  have m1 : (x0_0.map cv_Sheet).length ≤ 5864062014634 := by rw [List.length_map]; exact h1
  have m2 : (x0_1.map cv_Write).length ≤ 4398046510976 := by rw [List.length_map]; exact h2
  have hb : BytD (x0_0.map cv_Sheet) (x0_1.map cv_Write) := by
    constructor
    · intro x hx
      obtain ⟨y, hy, rfl⟩ := List.mem_map.1 hx
      exact byt_of (g0.1.2 y hy).2
    · intro x hx
      obtain ⟨y, hy, rfl⟩ := List.mem_map.1 hx
      exact byt_of (g0.2.2 y hy).2.2
  refine Ev.rounds ?_
  unfold laws_FnExactDiskMeta.f
  obtain ⟨r, hr⟩ := szDisk_some x0_0 x0_1 h1 h2 1048576
  refine Ev.bind hr ?_
  by_cases c : r < 0
  · simp only [if_pos c]; exact Ev.now _
  · simp only [if_neg c]
    refine Ev.bind (toDisk_ev _ _ h1 h2 k1 k2) (Ev.bind (spec_DiskMeta_ev _ _ m1 m2 hb) (Ev.bind (toDisk_ev _ _ h1 h2 k1 k2) (Ev.bind (impl_DiskMeta_ev _ _ m1 m2 hb) ?_)))
    rw [eqMeta_self]
    simp only [Option.bind_some, if_true, bne_self_eq_false]
    refine Ev.step (f := fun k => _) (fun k => by simp only [laws_FnExactDiskMeta.j0]; rfl) ?_
    simp only [Bool.false_eq_true, if_false]
    refine Ev.bind (toDisk_ev _ _ h1 h2 k1 k2) (Ev.bind (eqDisk_self _ _ m1 m2 (shortD_map_Sheet k1) (shortD_map_Write k2)) (Ev.one ?_))
    rw [if_pos rfl]

end Go.Proofs.Ytnleeeccpepekaa.Pure
