/- The pure statement of FnExactDiskRead: what the printed functions of this law compute answers true, for every argument within the bounds that the statement names. -/
import Derived.Test.YtnleeeccpepekaaPFnExactDiskReadx7
import Derived.Test.YtnleeeccpepekaaLib
import Derived.Test.YtnleeeccpepekaaLibOrd
import Derived.Test.YtnleeeccpepekaaLibOpen
import Derived.Test.YtnleeeccpepekaaLibRun
namespace Go.Proofs.Ytnleeeccpepekaa.Pure
open Go Go.RowKit Go.Proofs.Ytnleeeccpepekaa.PFnExactDiskRead Go.Proofs.YtnleeeccpepekaaW.PrintWords Go.Proofs.YtnleeeccpepekaaW.PrintLast Go.Proofs.YtnleeeccpepekaaW.PrintMore Go.Proofs.Ytnleeeccpepekaa.Lib
set_option linter.unusedVariables false
set_option linter.unusedSimpArgs false

def G5 (x : Int) : Prop := (Lit.int .u8 x).wf = true
def G22 (xs : List (Int)) : Prop := xs.length * 1 ≤ 140737488351232 ∧ ∀ x ∈ xs, G5 x
def G143 (x : S143) : Prop := G22 x.f0
def G70 (xs : List (S143)) : Prop := xs.length * 24 ≤ 140737488351232 ∧ ∀ x ∈ xs, G143 x
def G3 (x : Int) : Prop := (Lit.int .i64 x).wf = true
def G145 (x : S145) : Prop := G3 x.f0 ∧ G22 x.f1
def G71 (xs : List (S145)) : Prop := xs.length * 32 ≤ 140737488351232 ∧ ∀ x ∈ xs, G145 x
def G73 (x : (List (S143)) × (List (S145))) : Prop := G70 x.1 ∧ G71 x.2

/-! ### diskOkD -/
def sheetP (ss : List S122) (j : Nat) : Prop := (rd_T122 ss (j : Int)).f0.length = 0 ∨ (rd_T122 ss (j : Int)).f0.length = 512
def writeP (n : Nat) (ds : List S124) (j : Nat) : Prop := 0 ≤ (rd_T124 ds (j : Int)).f0 ∧ (rd_T124 ds (j : Int)).f0 < (n : Int) ∧ (rd_T124 ds (j : Int)).f1.length = 512
def diskOk (ss : List S122) (ds : List S124) : Prop := (∀ j, j < ss.length → sheetP ss j) ∧ (∀ j, j < ds.length → writeP ss.length ds j) ∧ 2 ≤ ss.length ∧ ss.length ≤ 400 ∧ ds.length ≤ 500

/-! ### tearD -/
def sheet (l : List Int) : List Int := if l.length = 0 then List.replicate 512 0 else l
def clamp (n : Int) : Nat := (max 0 (min n 512)).toNat
theorem clamp_le (n : Int) : clamp n ≤ 512 := by unfold clamp; omega
def tearL (a b : List Int) (n : Int) : List Int := if (sheet a).length = 512 ∧ (sheet b).length = 512 then (sheet b).take (clamp n) ++ (sheet a).drop (clamp n) else []
theorem sheet_of {l : List Int} (h : l.length = 512) : sheet l = l := by unfold sheet; rw [if_neg (by omega)]
theorem tearL_of {a b : List Int} (ha : a.length = 512) (hb : b.length = 512) (n : Int) : tearL a b n = b.take (clamp n) ++ a.drop (clamp n) := by unfold tearL; rw [sheet_of ha, sheet_of hb, if_pos ⟨ha, hb⟩]

/-! ### diskReadD -/
def lastB (ds : List S124) (a : Int) (b : List Int) : List Int := ds.foldl (fun b x => if x.f0 = a then x.f1 else b) b
theorem lastB_nil (a : Int) (b : List Int) : lastB [] a b = b := rfl
theorem lastB_take (ds : List S124) (a : Int) (b : List Int) {i : Nat} (h : i < ds.length) : lastB (ds.take (i + 1)) a b = if (rd_T124 ds (i : Int)).f0 = a then (rd_T124 ds (i : Int)).f1 else lastB (ds.take i) a b := by
  unfold lastB
  have e : rd_T124 ds (i : Int) = ds[i] := by unfold rd_T124; rw [Int.toNat_natCast]; exact getD_lt _ _ h
  rw [List.take_succ_eq_append_getElem h, List.foldl_append, e]
  rfl
theorem lastB_all (ds : List S124) (a : Int) (b : List Int) : lastB (ds.take ds.length) a b = lastB ds a b := by rw [List.take_length]
theorem lastB_ok {ss : List S122} {ds : List S124} (h : diskOk ss ds) (a : Int) (b : List Int) (hb : b.length = 0 ∨ b.length = 512) : ∀ i, i ≤ ds.length → (lastB (ds.take i) a b).length = 0 ∨ (lastB (ds.take i) a b).length = 512 := by
  intro i
  induction i with
  | zero => intro _; exact hb
  | succ i ih =>
    intro hi
    rw [lastB_take ds a b (by omega)]
    split
    · exact .inr (h.2.1 i (by omega)).2.2
    · exact ih (by omega)
/-- What lies on a sheet of a right disk. -/
def pageAt (ss : List S122) (ds : List S124) (a : Int) : List Int := sheet (lastB ds a (rd_T122 ss a).f0)
theorem pageAt_len {ss : List S122} {ds : List S124} (h : diskOk ss ds) (j : Nat) (hj : j < ss.length) : (pageAt ss ds (j : Int)).length = 512 := by
  unfold pageAt sheet
  have := lastB_ok h (j : Int) (rd_T122 ss (j : Int)).f0 (h.1 j hj) ds.length (Nat.le_refl _)
  rw [lastB_all] at this
  split
  · rw [List.length_replicate]
  · omega
def BytD (ss : List S122) (ds : List S124) : Prop := (∀ x ∈ ss, Byt x.f0) ∧ (∀ x ∈ ds, Byt x.f1)
theorem bytS {ss : List S122} {ds : List S124} (h : BytD ss ds) (a : Int) : Byt (rd_T122 ss a).f0 := by
  unfold rd_T122
  rcases Nat.lt_or_ge a.toNat ss.length with hl | hg
  · rw [getD_lt _ _ hl]; exact h.1 _ (List.getElem_mem hl)
  · rw [List.getD_eq_getElem?_getD, List.getElem?_eq_none hg]
    exact Byt.nil
theorem bytW {ss : List S122} {ds : List S124} (h : BytD ss ds) (i : Nat) (hi : i < ds.length) : Byt (rd_T124 ds (i : Int)).f1 := by
  unfold rd_T124
  rw [Int.toNat_natCast, getD_lt _ _ hi]; exact h.2 _ (List.getElem_mem hi)
theorem pageAt_byt {ss : List S122} {ds : List S124} (h : BytD ss ds) (a : Int) : Byt (pageAt ss ds a) := by
  have key : ∀ i, i ≤ ds.length → Byt (lastB (ds.take i) a (rd_T122 ss a).f0) := by
    intro i
    induction i with
    | zero => intro _; exact bytS h a
    | succ i ih =>
      intro hi
      rw [lastB_take ds a _ (by omega)]
      split
      · exact bytW h i (by omega)
      · exact ih (by omega)
  have := key ds.length (Nat.le_refl _)
  rw [lastB_all] at this
  unfold pageAt sheet
  split
  · exact fun x hx => by rw [(List.mem_replicate.1 hx).2]; omega
  · exact this

/-! ### implDiskRead -/
theorem impl_dread_l0 {ss : List S122} {ds : List S124} (h : diskOk ss ds) (a : Int) (b : List Int) (hb : b.length = 0 ∨ b.length = 512) (d : Nat) : ∀ i : Nat, i + d = ds.length →
    Ev (fun k => impl_Disk_read.l0 k ds a (i : Int) (lastB (ds.take i) a b)) (sheet (lastB ds a b)) := by
  have hd := h.2.2.2.2
  induction d with
  | zero =>
    intro i hi
    refine Ev.step1 fun k => ?_
    have e : i = ds.length := by omega
    have hl := lastB_ok h a b hb ds.length (Nat.le_refl _)
    simp only [impl_Disk_read.l0]
    rw [if_neg (by omega), e]
    rw [lastB_all] at hl ⊢
    unfold sheet impl_copyBytes.f
    by_cases c : (lastB ds a b).length = 0
    · rw [if_pos (by omega), if_pos c]
    · rw [if_neg (by omega), if_pos (by simp; omega), if_neg c]; rfl
  | succ d ih =>
    intro i hi
    have next := ih (i + 1) (by omega)
    rw [lastB_take ds a b (by omega)] at next
    refine Ev.step (fun k => ?_) next
    simp only [impl_Disk_read.l0]
    rw [if_pos (by omega), if_pos (by omega), wrS (by omega)]
    by_cases c : (rd_T124 ds (i : Int)).f0 = a
    · rw [if_pos c, if_pos c]
    · rw [if_neg c, if_neg c]
theorem impl_read_ev {ss : List S122} {ds : List S124} (h : diskOk ss ds) (j : Nat) (hj : j < ss.length) : Ev (fun k => impl_Disk_read.f k ss ds (j : Int)) (pageAt ss ds (j : Int)) := by
  unfold impl_Disk_read.f
  simp only [if_pos (show (0 : Int) ≤ (j : Int) by omega), if_pos (show (j : Int) < (ss.length : Int) by omega)]
  exact impl_dread_l0 h (j : Int) _ (h.1 j hj) ds.length 0 (by omega)

/-! ### specDiskOk -/
theorem spec_disk_l1 (ss : List S122) (ds : List S124) (h1 : ss.length ≤ 5864062014634) (h2 : ds.length ≤ 4398046510976) :
    Ev (fun k => spec_DiskOk.l1 k ds (ds.length : Int) 0 ss ds) (dec (∀ j, j < ds.length → writeP ss.length ds j) && true) := by
  refine loop_dec0 (F := fun k i => spec_DiskOk.l1 k ds (ds.length : Int) i ss ds) (Ev.step1 fun k => ?_) (fun i hi c k => ?_) (fun i hi c k => ?_)
  · simp only [spec_DiskOk.l1]
    rw [if_neg (by omega)]
  · simp only [spec_DiskOk.l1]
    unfold writeP at c
    rw [if_pos (by omega), if_pos (by omega), if_pos (by omega), if_neg (by omega), if_neg (by omega), if_pos (by omega), wrS (by omega)]
  · simp only [spec_DiskOk.l1]
    unfold writeP at c
    rw [if_pos (by omega), if_pos (by omega), if_pos (by omega)]
    by_cases c1 : (rd_T124 ds (i : Int)).f0 < 0
    · rw [if_pos c1]
    · rw [if_neg c1]
      by_cases c2 : (rd_T124 ds (i : Int)).f0 ≥ (ss.length : Int)
      · rw [if_pos c2]
      · rw [if_neg c2, if_neg (by omega)]
theorem spec_DiskOk_ev (ss : List S122) (ds : List S124) (h1 : ss.length ≤ 5864062014634) (h2 : ds.length ≤ 4398046510976) : Ev (fun k => spec_DiskOk.f k ss ds) (dec (diskOk ss ds)) := by
  unfold spec_DiskOk.f
  have no : Ev (fun k => spec_DiskOk.j0 k true ss ds) false := Ev.step1 fun k => by simp only [spec_DiskOk.j0]; rfl
  by_cases c1 : (ss.length : Int) < 2
  · simp only [if_pos c1]; rw [dec_f (fun h => by have := h.2.2.1; omega)]; exact no
  simp only [if_neg c1]
  by_cases c2 : (ss.length : Int) > 400
  · simp only [if_pos c2]; rw [dec_f (fun h => by have := h.2.2.2.1; omega)]; exact no
  simp only [if_neg c2]
  by_cases c3 : (ds.length : Int) > 500
  · rw [decide_eq_true c3, dec_f (fun h => by have := h.2.2.2.2; omega)]; exact no
  rw [decide_eq_false c3]
  have e : dec (diskOk ss ds) = (dec (∀ j, j < ss.length → sheetP ss j) && (dec (∀ j, j < ds.length → writeP ss.length ds j) && true)) := by
    rw [Bool.and_true, and_dec]
    exact dec_eq ⟨fun h => ⟨h.1, h.2.1⟩, fun h => ⟨h.1, h.2, by omega, by omega, by omega⟩⟩
  rw [e]
  refine Ev.step (f := fun k => spec_DiskOk.l0 k ss (ss.length : Int) 0 ss ds) (fun k => by simp only [spec_DiskOk.j0, Bool.false_eq_true, if_false]) ?_
  refine loop_dec0 (F := fun k i => spec_DiskOk.l0 k ss (ss.length : Int) i ss ds) (Ev.step (fun k => ?_) (spec_disk_l1 ss ds h1 h2)) (fun i hi c k => ?_) (fun i hi c k => ?_)
  · simp only [spec_DiskOk.l0]
    rw [if_neg (by omega)]
  · simp only [spec_DiskOk.l0]
    rw [if_pos (by omega), if_pos (by omega), if_pos (by omega), wrS (by omega)]
    unfold sheetP at c
    by_cases c1 : (rd_T122 ss (i : Int)).f0.length = 0
    · rw [if_pos (by omega)]
    · rw [if_neg (by omega), if_pos (by omega)]
  · simp only [spec_DiskOk.l0]
    unfold sheetP at c
    rw [if_pos (by omega), if_pos (by omega), if_pos (by omega), if_neg (by omega), if_neg (by omega)]

/-! ### specDiskRead -/
noncomputable def diskRead (ss : List S122) (ds : List S124) (a : Int) : List Int × Bool := if dec (diskOk ss ds ∧ 0 ≤ a ∧ a < (ss.length : Int)) = true then (pageAt ss ds a, true) else ([], false)
theorem spec_dread_l0 {ss : List S122} {ds : List S124} (h : diskOk ss ds) (j : Nat) (hj : j < ss.length) : ∀ i : Nat, i ≤ ds.length →
    Ev (fun k => spec_DiskRead.l0 k (j : Int) ((i : Int) - 1) ss ds) (sheet (lastB (ds.take i) (j : Int) (rd_T122 ss (j : Int)).f0), true) := by
  have hd := h.2.2.2.2
  intro i
  induction i with
  | zero =>
    intro _
    refine Ev.step1 fun k => ?_
    simp only [spec_DiskRead.l0]
    rw [if_neg (by omega), if_pos (by omega), if_pos (by omega)]
    have hs := h.1 j hj
    unfold sheetP at hs
    unfold spec_l04Sheet.f
    rw [List.take_zero, lastB_nil]
    unfold sheet
    by_cases c : (rd_T122 ss (j : Int)).f0.length = 0
    · rw [if_pos (by omega), if_pos (by decide), if_pos c]
      rfl
    · have e : (rd_T122 ss (j : Int)).f0.length = 512 := by omega
      rw [if_neg (by omega), if_neg c]
      simp only [Option.bind_some]
      rw [if_pos (by simp; omega)]
      simp [e]
  | succ i ih =>
    intro hi
    have e : ((i + 1 : Nat) : Int) - 1 = (i : Int) := by omega
    rw [lastB_take ds (j : Int) _ (by omega), e]
    by_cases c : (rd_T124 ds (i : Int)).f0 = (j : Int)
    · refine Ev.step1 fun k => ?_
      have hw := (h.2.1 i (by omega)).2.2
      simp only [spec_DiskRead.l0, Option.bind_some]
      rw [if_pos (by omega), if_pos (by omega), if_pos (by omega), if_pos c, if_pos (by simp; omega), if_pos c, sheet_of hw]
      rfl
    · rw [if_neg c]
      refine Ev.step (fun k => ?_) (ih (by omega))
      simp only [spec_DiskRead.l0]
      rw [if_pos (by omega), if_pos (by omega), if_pos (by omega), if_neg c, wr (by omega) (by omega)]
theorem spec_DiskRead_ev (ss : List S122) (ds : List S124) (a : Int) (h1 : ss.length ≤ 5864062014634) (h2 : ds.length ≤ 4398046510976) : Ev (fun k => spec_DiskRead.f k ss ds a) (diskRead ss ds a) := by
  unfold spec_DiskRead.f diskRead
  refine Ev.bind (spec_DiskOk_ev ss ds h1 h2) ?_
  by_cases c : dec (diskOk ss ds) = true
  · have h := dec_iff.1 c
    simp only [if_pos c]
    by_cases c0 : a < 0
    · rw [dec_f (fun f => by have := f.2.1; omega)]
      simp only [if_pos c0]
      exact Ev.step1 fun k => by simp only [spec_DiskRead.j0]; rfl
    · simp only [if_neg c0]
      by_cases c1 : a ≥ (ss.length : Int)
      · rw [dec_f (fun f => by have := f.2.2; omega), decide_eq_true c1]
        exact Ev.step1 fun k => by simp only [spec_DiskRead.j0]; rfl
      · rw [dec_t ⟨h, by omega, by omega⟩, decide_eq_false c1]
        obtain ⟨j, rfl⟩ := Int.eq_ofNat_of_zero_le (show 0 ≤ a by omega)
        have fin := spec_dread_l0 h j (by omega) ds.length (Nat.le_refl _)
        rw [lastB_all] at fin
        refine Ev.step (fun k => ?_) fin
        simp only [spec_DiskRead.j0, Bool.false_eq_true, if_false]
        rw [wr (by omega) (by omega)]
  · simp only [if_neg c]
    rw [dec_f (fun f => c (dec_t f.1))]
    exact Ev.step1 fun k => by simp only [spec_DiskRead.j0]; rfl

/-! ### within -/
theorem within_eq (x lo hi : Int) : impl_within.f x lo hi = some (decide (lo ≤ x ∧ x ≤ hi)) := by
  unfold impl_within.f
  by_cases h : x ≥ lo
  · rw [if_pos h]; simp [h]
  · rw [if_neg h]; simp; omega

/-! ### implDiskOk -/
theorem impl_disk_l1 (ss : List S122) (ds : List S124) (h1 : ss.length ≤ 5864062014634) (h2 : ds.length ≤ 4398046510976) :
    Ev (fun k => impl_DiskOk.l1 k ds (ds.length : Int) 0 ss ds) (dec (∀ j, j < ds.length → writeP ss.length ds j) && dec (2 ≤ ss.length ∧ ss.length ≤ 400 ∧ ds.length ≤ 500)) := by
  refine loop_dec0 (F := fun k i => impl_DiskOk.l1 k ds (ds.length : Int) i ss ds) (Ev.step1 fun k => ?_) (fun i hi c k => ?_) (fun i hi c k => ?_)
  · simp only [impl_DiskOk.l1]
    rw [if_neg (by omega), within_eq]
    simp only [Option.bind_some]
    by_cases c1 : (2 : Int) ≤ ss.length ∧ (ss.length : Int) ≤ 400
    · rw [if_pos (decide_eq_true c1)]; exact congrArg some (bool_dec (by rw [decide_eq_true_iff]; omega))
    · rw [if_neg (fun e => c1 (of_decide_eq_true e)), dec_f (by omega)]
  · simp only [impl_DiskOk.l1]
    unfold writeP at c
    rw [if_pos (by omega), if_pos (by omega), if_pos (by omega), wr (n := (ss.length : Int) - 1) (by omega) (by omega), within_eq]
    simp only [Option.bind_some]
    rw [if_pos (decide_eq_true (by omega)), if_pos (by omega), wrS (by omega)]
  · simp only [impl_DiskOk.l1]
    unfold writeP at c
    rw [if_pos (by omega), if_pos (by omega), if_pos (by omega), wr (n := (ss.length : Int) - 1) (by omega) (by omega), within_eq]
    simp only [Option.bind_some]
    by_cases c1 : 0 ≤ (rd_T124 ds (i : Int)).f0 ∧ (rd_T124 ds (i : Int)).f0 ≤ (ss.length : Int) - 1
    · rw [if_pos (decide_eq_true c1), if_neg (by omega)]
    · rw [if_neg (fun e => c1 (of_decide_eq_true e))]
theorem impl_DiskOk_ev (ss : List S122) (ds : List S124) (h1 : ss.length ≤ 5864062014634) (h2 : ds.length ≤ 4398046510976) : Ev (fun k => impl_DiskOk.f k ss ds) (dec (diskOk ss ds)) := by
  unfold impl_DiskOk.f
  have e : dec (diskOk ss ds) = (dec (∀ j, j < ss.length → sheetP ss j) && (dec (∀ j, j < ds.length → writeP ss.length ds j) && dec (2 ≤ ss.length ∧ ss.length ≤ 400 ∧ ds.length ≤ 500))) := by rw [and_dec, and_dec]; rfl
  rw [e]
  refine loop_dec0 (F := fun k i => impl_DiskOk.l0 k ss (ss.length : Int) i ss ds) (Ev.step (fun k => ?_) (impl_disk_l1 ss ds h1 h2)) (fun i hi c k => ?_) (fun i hi c k => ?_)
  · simp only [impl_DiskOk.l0]
    rw [if_neg (by omega)]
  · simp only [impl_DiskOk.l0]
    rw [if_pos (by omega), if_pos (by omega), if_pos (by omega), wrS (by omega)]
    unfold sheetP at c
    by_cases c1 : (rd_T122 ss (i : Int)).f0.length = 0
    · rw [if_pos (by omega)]
    · rw [if_neg (by omega), if_pos (by omega)]
  · simp only [impl_DiskOk.l0]
    unfold sheetP at c
    rw [if_pos (by omega), if_pos (by omega), if_pos (by omega), if_neg (by omega), if_neg (by omega)]

/-! ### toByteS -/
theorem toByteS_l0 (l : List Int) (h : l.length ≤ 140737488351232) (d : Nat) : ∀ i : Nat, i + d = l.length →
    Ev (fun k => laws_toByteS.l0 k l (l.take i ++ List.replicate (l.length - i) 0) (i : Int)) l := by
  induction d with
  | zero =>
    intro i hi
    refine Ev.step1 fun k => ?_
    simp only [laws_toByteS.l0]
    rw [if_neg (by omega), set_last l 0 (by omega)]
  | succ d ih =>
    intro i hi
    refine Ev.step (f := fun k => laws_toByteS.l0 k l (l.take (i + 1) ++ List.replicate (l.length - (i + 1)) 0) ((i + 1 : Nat) : Int)) (fun k => ?_) (ih (i + 1) (by omega))
    simp only [laws_toByteS.l0]
    rw [if_pos (by omega), if_pos (by omega), if_pos (by rw [len_mid _ _ (by omega)]; omega), Int.toNat_natCast, wrS (by omega), set_next l 0 _ i (by omega) (rd_nat (by omega))]
theorem toByteS_ev (l : List Int) (h : l.length ≤ 140737488351232) : Ev (fun k => laws_toByteS.f k l) l := by
  unfold laws_toByteS.f
  rw [Int.toNat_natCast]
  simp only [if_pos (show (0 : Int) ≤ l.length by omega), if_pos (show l.length ≤ 281474976710656 by omega)]
  rw [set_first]
  exact toByteS_l0 l h l.length 0 (by omega)

/-! ### eqByteS -/
theorem eqByteS_l0 (l : List Int) (h : l.length ≤ 140737488351232) (d : Nat) : ∀ i : Nat, i + d = l.length → Ev (fun k => laws_eqByteS.l0 k l l (i : Int)) true := by
  induction d with
  | zero =>
    intro i hi
    refine Ev.step1 fun k => ?_
    simp only [laws_eqByteS.l0]
    rw [if_neg (by omega)]
  | succ d ih =>
    intro i hi
    refine Ev.step (f := fun k => laws_eqByteS.l0 k l l ((i + 1 : Nat) : Int)) (fun k => ?_) (ih (i + 1) (by omega))
    simp only [laws_eqByteS.l0]
    rw [if_pos (by omega), if_pos (by omega), if_pos (by omega), if_pos trivial, wrS (by omega)]
theorem eqByteS_self (l : List Int) (h : l.length ≤ 140737488351232) : Ev (fun k => laws_eqByteS.f k l l) true := by
  unfold laws_eqByteS.f
  simp only [if_pos trivial]
  exact eqByteS_l0 l h l.length 0 (by omega)

/-! ### szByteS -/
theorem szByteS_some (b : List Int) (n : Int) : ∃ r, laws_szByteS.f b n = some r := by
  unfold laws_szByteS.f
  split <;> exact ⟨_, rfl⟩

/-! ### sheetS -/
def cv_Sheet (x : S143) : S122 := ⟨x.f0⟩
theorem rds_Sheet (l : List S143) {i : Nat} (h : i < l.length) : rd_T143 l (i : Int) = l[i] := by unfold rd_T143; rw [Int.toNat_natCast]; exact getD_lt _ _ h
theorem rdd_Sheet (l : List S122) {i : Nat} (h : i < l.length) : rd_T122 l (i : Int) = l[i] := by unfold rd_T122; rw [Int.toNat_natCast]; exact getD_lt _ _ h
/-- Every element's bytes are few enough. -/
def short_Sheet (l : List S143) : Prop := ∀ x ∈ l, x.f0.length ≤ 140737488351232
def shortD_Sheet (l : List S122) : Prop := ∀ x ∈ l, x.f0.length ≤ 140737488351232
theorem shortD_map_Sheet {l : List S143} (h : short_Sheet l) : shortD_Sheet (l.map cv_Sheet) := by
  intro x hx
  obtain ⟨y, hy, rfl⟩ := List.mem_map.1 hx
  exact h y hy
theorem toSheet_ev (b : List Int) (h : b.length ≤ 140737488351232) : Ev (fun k => laws_toSheet.f k b) b := by
  unfold laws_toSheet.f
  exact Ev.bind (toByteS_ev b h) (Ev.now _)
theorem toSheetS_l0 (l : List S143) (h : l.length ≤ 5864062014634) (hs : short_Sheet l) (d : Nat) : ∀ i : Nat, i + d = l.length →
    Ev (fun k => laws_toSheetS.l0 k l ((l.map cv_Sheet).take i ++ List.replicate ((l.map cv_Sheet).length - i) z122) (i : Int)) (l.map cv_Sheet) := by
  have hm : (l.map cv_Sheet).length = l.length := List.length_map ..
  induction d with
  | zero =>
    intro i hi
    refine Ev.step1 fun k => ?_
    simp only [laws_toSheetS.l0]
    rw [if_neg (by omega), set_last (l.map cv_Sheet) _ (by omega)]
  | succ d ih =>
    intro i hi
    have hlt : i < l.length := by omega
    have hL : ((l.map cv_Sheet).take i ++ List.replicate ((l.map cv_Sheet).length - i) z122).length = (l.map cv_Sheet).length := len_mid _ _ (by omega)
    refine Ev.step (f := fun k => (laws_toSheet.f k l[i].f0).bind fun t => (if (i : Int) < (((l.map cv_Sheet).take i ++ List.replicate ((l.map cv_Sheet).length - i) z122).length : Int) then (laws_toSheetS.l0 k l (((l.map cv_Sheet).take i ++ List.replicate ((l.map cv_Sheet).length - i) z122).set i (⟨t⟩ : S122)) ((i + 1 : Nat) : Int)) else (none))) (fun k => ?_) (Ev.bind (toSheet_ev l[i].f0 (hs _ (List.getElem_mem hlt))) ?_)
    · simp only [laws_toSheetS.l0]
      rw [if_pos (by omega), if_pos (by omega), rds_Sheet l hlt, Int.toNat_natCast, wrS (by omega)]
    · simp only [if_pos (show (i : Int) < (((l.map cv_Sheet).take i ++ List.replicate ((l.map cv_Sheet).length - i) z122).length : Int) by rw [hL]; omega)]
      rw [set_next (l.map cv_Sheet) _ _ i (by omega) (by rw [List.getElem_map]; rfl)]
      exact ih (i + 1) (by omega)
theorem toSheetS_ev (l : List S143) (h : l.length ≤ 5864062014634) (hs : short_Sheet l) : Ev (fun k => laws_toSheetS.f k l) (l.map cv_Sheet) := by
  unfold laws_toSheetS.f
  rw [Int.toNat_natCast]
  simp only [if_pos (show (0 : Int) ≤ l.length by omega), if_pos (show l.length ≤ 11728124029610 by omega)]
  have := toSheetS_l0 l h hs l.length 0 (by omega)
  rw [← set_first, List.length_map] at this
  exact this
theorem eqSheet_self (b : List Int) (h : b.length ≤ 140737488351232) : Ev (fun k => laws_eqSheet.f k b b) true := by
  unfold laws_eqSheet.f
  try simp only [if_true]
  refine Ev.bind (eqByteS_self b h) (Ev.one ?_)
  rw [if_pos rfl]
theorem eqSheetS_l0 (l : List S122) (h : l.length ≤ 5864062014634) (hs : shortD_Sheet l) (d : Nat) : ∀ i : Nat, i + d = l.length → Ev (fun k => laws_eqSheetS.l0 k l l (i : Int)) true := by
  induction d with
  | zero =>
    intro i hi
    refine Ev.step1 fun k => ?_
    simp only [laws_eqSheetS.l0]
    rw [if_neg (by omega)]
  | succ d ih =>
    intro i hi
    have hlt : i < l.length := by omega
    refine Ev.step (f := fun k => (laws_eqSheet.f k l[i].f0 l[i].f0).bind fun t => (if t = true then (laws_eqSheetS.l0 k l l ((i + 1 : Nat) : Int)) else (some false))) (fun k => ?_) (Ev.bind (eqSheet_self l[i].f0 (hs _ (List.getElem_mem hlt))) ?_)
    · simp only [laws_eqSheetS.l0]
      rw [if_pos (by omega), if_pos (by omega), if_pos (by omega), rdd_Sheet l hlt, wrS (by omega)]
    · simp only [if_true]
      exact ih (i + 1) (by omega)
theorem eqSheetS_self (l : List S122) (h : l.length ≤ 5864062014634) (hs : shortD_Sheet l) : Ev (fun k => laws_eqSheetS.f k l l) true := by
  unfold laws_eqSheetS.f
  simp only [if_pos trivial]
  exact eqSheetS_l0 l h hs l.length 0 (by omega)
theorem szSheet_some (b : List Int) (n : Int) : ∃ r, laws_szSheet.f b n = some r := by
  unfold laws_szSheet.f
  obtain ⟨r, hr⟩ := szByteS_some b n
  rw [hr]
  simp only [Option.bind_some]
  split <;> exact ⟨_, rfl⟩
theorem szSheetS_l0 (l : List S143) (h : l.length ≤ 5864062014634) (d : Nat) : ∀ (i : Nat) (n : Int), i + d = l.length → ∃ r, Ev (fun k => laws_szSheetS.l0 k l n (i : Int)) r := by
  induction d with
  | zero =>
    intro i n hi
    refine ⟨n, Ev.step1 fun k => ?_⟩
    simp only [laws_szSheetS.l0]
    rw [if_neg (by omega)]
  | succ d ih =>
    intro i n hi
    have hlt : i < l.length := by omega
    obtain ⟨q, hq⟩ := szSheet_some l[i].f0 n
    by_cases c : q < 0
    · refine ⟨-1, Ev.step1 fun k => ?_⟩
      simp only [laws_szSheetS.l0]
      rw [if_pos (by omega), if_pos (by omega), rds_Sheet l hlt, hq]
      simp only [Option.bind_some]
      rw [if_pos c]
    · obtain ⟨r, hr⟩ := ih (i + 1) q (by omega)
      refine ⟨r, Ev.step (fun k => ?_) hr⟩
      simp only [laws_szSheetS.l0]
      rw [if_pos (by omega), if_pos (by omega), rds_Sheet l hlt, hq]
      simp only [Option.bind_some]
      rw [if_neg c, wrS (by omega)]
theorem szSheetS_some (l : List S143) (h : l.length ≤ 5864062014634) (n : Int) : ∃ r, Ev (fun k => laws_szSheetS.f k l n) r := by
  unfold laws_szSheetS.f
  by_cases c : wrap64 (n - (l.length : Int)) < 0
  · simp only [if_pos c]; exact ⟨_, Ev.now _⟩
  · simp only [if_neg c]; exact szSheetS_l0 l h l.length 0 _ (by omega)

/-! ### writeS -/
def cv_Write (x : S145) : S124 := ⟨x.f0, x.f1⟩
theorem rds_Write (l : List S145) {i : Nat} (h : i < l.length) : rd_T145 l (i : Int) = l[i] := by unfold rd_T145; rw [Int.toNat_natCast]; exact getD_lt _ _ h
theorem rdd_Write (l : List S124) {i : Nat} (h : i < l.length) : rd_T124 l (i : Int) = l[i] := by unfold rd_T124; rw [Int.toNat_natCast]; exact getD_lt _ _ h
/-- Every element's bytes are few enough. -/
def short_Write (l : List S145) : Prop := ∀ x ∈ l, x.f1.length ≤ 140737488351232
def shortD_Write (l : List S124) : Prop := ∀ x ∈ l, x.f1.length ≤ 140737488351232
theorem shortD_map_Write {l : List S145} (h : short_Write l) : shortD_Write (l.map cv_Write) := by
  intro x hx
  obtain ⟨y, hy, rfl⟩ := List.mem_map.1 hx
  exact h y hy
theorem toWrite_ev (a0 : Int) (b : List Int) (h : b.length ≤ 140737488351232) : Ev (fun k => laws_toWrite.f k a0 b) (a0, b) := by
  unfold laws_toWrite.f
  exact Ev.bind (toByteS_ev b h) (Ev.now _)
theorem toWriteS_l0 (l : List S145) (h : l.length ≤ 4398046510976) (hs : short_Write l) (d : Nat) : ∀ i : Nat, i + d = l.length →
    Ev (fun k => laws_toWriteS.l0 k l ((l.map cv_Write).take i ++ List.replicate ((l.map cv_Write).length - i) z124) (i : Int)) (l.map cv_Write) := by
  have hm : (l.map cv_Write).length = l.length := List.length_map ..
  induction d with
  | zero =>
    intro i hi
    refine Ev.step1 fun k => ?_
    simp only [laws_toWriteS.l0]
    rw [if_neg (by omega), set_last (l.map cv_Write) _ (by omega)]
  | succ d ih =>
    intro i hi
    have hlt : i < l.length := by omega
    have hL : ((l.map cv_Write).take i ++ List.replicate ((l.map cv_Write).length - i) z124).length = (l.map cv_Write).length := len_mid _ _ (by omega)
    refine Ev.step (f := fun k => (laws_toWrite.f k l[i].f0 l[i].f1).bind fun t => (if (i : Int) < (((l.map cv_Write).take i ++ List.replicate ((l.map cv_Write).length - i) z124).length : Int) then (laws_toWriteS.l0 k l (((l.map cv_Write).take i ++ List.replicate ((l.map cv_Write).length - i) z124).set i (⟨t.1, t.2⟩ : S124)) ((i + 1 : Nat) : Int)) else (none))) (fun k => ?_) (Ev.bind (toWrite_ev l[i].f0 l[i].f1 (hs _ (List.getElem_mem hlt))) ?_)
    · simp only [laws_toWriteS.l0]
      rw [if_pos (by omega), if_pos (by omega), rds_Write l hlt, Int.toNat_natCast, wrS (by omega)]
    · simp only [if_pos (show (i : Int) < (((l.map cv_Write).take i ++ List.replicate ((l.map cv_Write).length - i) z124).length : Int) by rw [hL]; omega)]
      rw [set_next (l.map cv_Write) _ _ i (by omega) (by rw [List.getElem_map]; rfl)]
      exact ih (i + 1) (by omega)
theorem toWriteS_ev (l : List S145) (h : l.length ≤ 4398046510976) (hs : short_Write l) : Ev (fun k => laws_toWriteS.f k l) (l.map cv_Write) := by
  unfold laws_toWriteS.f
  rw [Int.toNat_natCast]
  simp only [if_pos (show (0 : Int) ≤ l.length by omega), if_pos (show l.length ≤ 8796093022208 by omega)]
  have := toWriteS_l0 l h hs l.length 0 (by omega)
  rw [← set_first, List.length_map] at this
  exact this
theorem eqWrite_self (a0 : Int) (b : List Int) (h : b.length ≤ 140737488351232) : Ev (fun k => laws_eqWrite.f k a0 b a0 b) true := by
  unfold laws_eqWrite.f
  try simp only [if_true]
  refine Ev.bind (eqByteS_self b h) (Ev.one ?_)
  rw [if_pos rfl]
theorem eqWriteS_l0 (l : List S124) (h : l.length ≤ 4398046510976) (hs : shortD_Write l) (d : Nat) : ∀ i : Nat, i + d = l.length → Ev (fun k => laws_eqWriteS.l0 k l l (i : Int)) true := by
  induction d with
  | zero =>
    intro i hi
    refine Ev.step1 fun k => ?_
    simp only [laws_eqWriteS.l0]
    rw [if_neg (by omega)]
  | succ d ih =>
    intro i hi
    have hlt : i < l.length := by omega
    refine Ev.step (f := fun k => (laws_eqWrite.f k l[i].f0 l[i].f1 l[i].f0 l[i].f1).bind fun t => (if t = true then (laws_eqWriteS.l0 k l l ((i + 1 : Nat) : Int)) else (some false))) (fun k => ?_) (Ev.bind (eqWrite_self l[i].f0 l[i].f1 (hs _ (List.getElem_mem hlt))) ?_)
    · simp only [laws_eqWriteS.l0]
      rw [if_pos (by omega), if_pos (by omega), if_pos (by omega), rdd_Write l hlt, wrS (by omega)]
    · simp only [if_true]
      exact ih (i + 1) (by omega)
theorem eqWriteS_self (l : List S124) (h : l.length ≤ 4398046510976) (hs : shortD_Write l) : Ev (fun k => laws_eqWriteS.f k l l) true := by
  unfold laws_eqWriteS.f
  simp only [if_pos trivial]
  exact eqWriteS_l0 l h hs l.length 0 (by omega)
theorem szWrite_some (a0 : Int) (b : List Int) (n : Int) : ∃ r, laws_szWrite.f a0 b n = some r := by
  unfold laws_szWrite.f
  obtain ⟨r, hr⟩ := szByteS_some b n
  rw [hr]
  simp only [Option.bind_some]
  split <;> exact ⟨_, rfl⟩
theorem szWriteS_l0 (l : List S145) (h : l.length ≤ 4398046510976) (d : Nat) : ∀ (i : Nat) (n : Int), i + d = l.length → ∃ r, Ev (fun k => laws_szWriteS.l0 k l n (i : Int)) r := by
  induction d with
  | zero =>
    intro i n hi
    refine ⟨n, Ev.step1 fun k => ?_⟩
    simp only [laws_szWriteS.l0]
    rw [if_neg (by omega)]
  | succ d ih =>
    intro i n hi
    have hlt : i < l.length := by omega
    obtain ⟨q, hq⟩ := szWrite_some l[i].f0 l[i].f1 n
    by_cases c : q < 0
    · refine ⟨-1, Ev.step1 fun k => ?_⟩
      simp only [laws_szWriteS.l0]
      rw [if_pos (by omega), if_pos (by omega), rds_Write l hlt, hq]
      simp only [Option.bind_some]
      rw [if_pos c]
    · obtain ⟨r, hr⟩ := ih (i + 1) q (by omega)
      refine ⟨r, Ev.step (fun k => ?_) hr⟩
      simp only [laws_szWriteS.l0]
      rw [if_pos (by omega), if_pos (by omega), rds_Write l hlt, hq]
      simp only [Option.bind_some]
      rw [if_neg c, wrS (by omega)]
theorem szWriteS_some (l : List S145) (h : l.length ≤ 4398046510976) (n : Int) : ∃ r, Ev (fun k => laws_szWriteS.f k l n) r := by
  unfold laws_szWriteS.f
  by_cases c : wrap64 (n - (l.length : Int)) < 0
  · simp only [if_pos c]; exact ⟨_, Ev.now _⟩
  · simp only [if_neg c]; exact szWriteS_l0 l h l.length 0 _ (by omega)

/-! ### diskS -/
theorem toDisk_ev (ss : List S143) (ds : List S145) (h1 : ss.length ≤ 5864062014634) (h2 : ds.length ≤ 4398046510976) (k1 : short_Sheet ss) (k2 : short_Write ds) : Ev (fun k => laws_toDisk.f k ss ds) (ss.map cv_Sheet, ds.map cv_Write) := by
  unfold laws_toDisk.f
  exact Ev.bind (toSheetS_ev ss h1 k1) (Ev.bind (toWriteS_ev ds h2 k2) (Ev.now _))
theorem eqDisk_self (ss : List S122) (ds : List S124) (h1 : ss.length ≤ 5864062014634) (h2 : ds.length ≤ 4398046510976) (k1 : shortD_Sheet ss) (k2 : shortD_Write ds) : Ev (fun k => laws_eqDisk.f k ss ds ss ds) true := by
  unfold laws_eqDisk.f
  refine Ev.bind (eqSheetS_self ss h1 k1) ?_
  simp only [if_true]
  refine Ev.bind (eqWriteS_self ds h2 k2) (Ev.one ?_)
  rw [if_pos rfl]
theorem szDisk_some (ss : List S143) (ds : List S145) (h1 : ss.length ≤ 5864062014634) (h2 : ds.length ≤ 4398046510976) (n : Int) : ∃ r, Ev (fun k => laws_szDisk.f k ss ds n) r := by
  unfold laws_szDisk.f
  obtain ⟨r1, e1⟩ := szSheetS_some ss h1 n
  by_cases c1 : r1 < 0
  · refine ⟨-1, Ev.bind e1 ?_⟩
    simp only [if_pos c1]; exact Ev.now _
  obtain ⟨r2, e2⟩ := szWriteS_some ds h2 r1
  by_cases c2 : r2 < 0
  · refine ⟨-1, Ev.bind e1 ?_⟩
    simp only [if_neg c1]
    refine Ev.bind e2 ?_
    simp only [if_pos c2]; exact Ev.now _
  · refine ⟨r2, Ev.bind e1 ?_⟩
    simp only [if_neg c1]
    refine Ev.bind e2 ?_
    simp only [if_neg c2]; exact Ev.now _

/-! ### markDisk -/
theorem tot_nil : tot [] = 0 := rfl
theorem tot_cons (n : Nat) (ns : List Nat) : tot (n :: ns) = n + tot ns := rfl
theorem szByteS_tot (b : List Int) (hb : b.length ≤ 140737488351232) (n : Int) (h0 : 0 ≤ n) (h1 : n ≤ 1048576) : ∃ r, laws_szByteS.f b n = some r ∧ (r < 0 ∨ 0 ≤ r ∧ r + b.length = n) := by
  unfold laws_szByteS.f
  rw [wr (by omega) (by omega)]
  split
  · exact ⟨_, rfl, .inl (by decide)⟩
  · exact ⟨_, rfl, .inr ⟨by omega, by omega⟩⟩
theorem szSheet_tot (b : List Int) (hb : b.length ≤ 140737488351232) (n : Int) (h0 : 0 ≤ n) (h1 : n ≤ 1048576) : ∃ r, laws_szSheet.f b n = some r ∧ (r < 0 ∨ 0 ≤ r ∧ r + b.length = n) := by
  unfold laws_szSheet.f
  obtain ⟨r, hr, h⟩ := szByteS_tot b hb n h0 h1
  rw [hr]
  simp only [Option.bind_some]
  split
  · exact ⟨_, rfl, .inl (by decide)⟩
  · exact ⟨_, rfl, .inr (by omega)⟩
theorem szWrite_tot (a0 : Int) (b : List Int) (hb : b.length ≤ 140737488351232) (n : Int) (h0 : 0 ≤ n) (h1 : n ≤ 1048576) : ∃ r, laws_szWrite.f a0 b n = some r ∧ (r < 0 ∨ 0 ≤ r ∧ r + b.length = n) := by
  unfold laws_szWrite.f
  obtain ⟨r, hr, h⟩ := szByteS_tot b hb n h0 h1
  rw [hr]
  simp only [Option.bind_some]
  split
  · exact ⟨_, rfl, .inl (by decide)⟩
  · exact ⟨_, rfl, .inr (by omega)⟩
theorem szSheetS_t0 (l : List S143) (h : l.length ≤ 5864062014634) (hs : short_Sheet l) (d : Nat) : ∀ (i : Nat) (n : Int), i + d = l.length → 0 ≤ n → n ≤ 1048576 → ∃ r, Ev (fun k => laws_szSheetS.l0 k l n (i : Int)) r ∧ (0 ≤ r → r + tot ((l.drop i).map fun x => x.f0.length) ≤ n) ∧ r ≤ 1048576 := by
  induction d with
  | zero =>
    intro i n hi h0 h1
    refine ⟨n, Ev.step1 fun k => ?_, fun _ => ?_, h1⟩
    · simp only [laws_szSheetS.l0]
      rw [if_neg (by omega)]
    · rw [List.drop_of_length_le (by omega)]; simp [tot_nil]
  | succ d ih =>
    intro i n hi h0 h1
    have hlt : i < l.length := by omega
    obtain ⟨q, hq, hq2⟩ := szSheet_tot l[i].f0 (hs _ (List.getElem_mem hlt)) n h0 h1
    by_cases c : q < 0
    · refine ⟨-1, Ev.step1 fun k => ?_, fun hr => absurd hr (by decide), by decide⟩
      simp only [laws_szSheetS.l0]
      rw [if_pos (by omega), if_pos (by omega), rds_Sheet l hlt, hq]
      simp only [Option.bind_some]
      rw [if_pos c]
    · obtain ⟨r, hr, hr2, hr3⟩ := ih (i + 1) q (by omega) (by omega) (by omega)
      refine ⟨r, Ev.step (fun k => ?_) hr, fun h0r => ?_, hr3⟩
      · simp only [laws_szSheetS.l0]
        rw [if_pos (by omega), if_pos (by omega), rds_Sheet l hlt, hq]
        simp only [Option.bind_some]
        rw [if_neg c, wrS (by omega)]
      · have := hr2 h0r
        rw [List.drop_eq_getElem_cons hlt, List.map_cons, tot_cons]
        omega
theorem szSheetS_tot (l : List S143) (h : l.length ≤ 5864062014634) (hs : short_Sheet l) (n : Int) (h0 : 0 ≤ n) (h1 : n ≤ 1048576) : ∃ r, Ev (fun k => laws_szSheetS.f k l n) r ∧ (0 ≤ r → r + l.length + tot (l.map fun x => x.f0.length) ≤ n) ∧ r ≤ 1048576 := by
  unfold laws_szSheetS.f
  rw [wr (by omega) (by omega)]
  by_cases c : n - (l.length : Int) < 0
  · simp only [if_pos c]; exact ⟨_, Ev.now _, fun hr => absurd hr (by decide), by decide⟩
  · simp only [if_neg c]
    obtain ⟨r, hr, hr2, hr3⟩ := szSheetS_t0 l h hs l.length 0 (n - l.length) (by omega) (by omega) (by omega)
    exact ⟨r, hr, fun h0r => by have := hr2 h0r; rw [List.drop_zero] at this; omega, hr3⟩
theorem szWriteS_t0 (l : List S145) (h : l.length ≤ 4398046510976) (hs : short_Write l) (d : Nat) : ∀ (i : Nat) (n : Int), i + d = l.length → 0 ≤ n → n ≤ 1048576 → ∃ r, Ev (fun k => laws_szWriteS.l0 k l n (i : Int)) r ∧ (0 ≤ r → r + tot ((l.drop i).map fun x => x.f1.length) ≤ n) ∧ r ≤ 1048576 := by
  induction d with
  | zero =>
    intro i n hi h0 h1
    refine ⟨n, Ev.step1 fun k => ?_, fun _ => ?_, h1⟩
    · simp only [laws_szWriteS.l0]
      rw [if_neg (by omega)]
    · rw [List.drop_of_length_le (by omega)]; simp [tot_nil]
  | succ d ih =>
    intro i n hi h0 h1
    have hlt : i < l.length := by omega
    obtain ⟨q, hq, hq2⟩ := szWrite_tot l[i].f0 l[i].f1 (hs _ (List.getElem_mem hlt)) n h0 h1
    by_cases c : q < 0
    · refine ⟨-1, Ev.step1 fun k => ?_, fun hr => absurd hr (by decide), by decide⟩
      simp only [laws_szWriteS.l0]
      rw [if_pos (by omega), if_pos (by omega), rds_Write l hlt, hq]
      simp only [Option.bind_some]
      rw [if_pos c]
    · obtain ⟨r, hr, hr2, hr3⟩ := ih (i + 1) q (by omega) (by omega) (by omega)
      refine ⟨r, Ev.step (fun k => ?_) hr, fun h0r => ?_, hr3⟩
      · simp only [laws_szWriteS.l0]
        rw [if_pos (by omega), if_pos (by omega), rds_Write l hlt, hq]
        simp only [Option.bind_some]
        rw [if_neg c, wrS (by omega)]
      · have := hr2 h0r
        rw [List.drop_eq_getElem_cons hlt, List.map_cons, tot_cons]
        omega
theorem szWriteS_tot (l : List S145) (h : l.length ≤ 4398046510976) (hs : short_Write l) (n : Int) (h0 : 0 ≤ n) (h1 : n ≤ 1048576) : ∃ r, Ev (fun k => laws_szWriteS.f k l n) r ∧ (0 ≤ r → r + l.length + tot (l.map fun x => x.f1.length) ≤ n) ∧ r ≤ 1048576 := by
  unfold laws_szWriteS.f
  rw [wr (by omega) (by omega)]
  by_cases c : n - (l.length : Int) < 0
  · simp only [if_pos c]; exact ⟨_, Ev.now _, fun hr => absurd hr (by decide), by decide⟩
  · simp only [if_neg c]
    obtain ⟨r, hr, hr2, hr3⟩ := szWriteS_t0 l h hs l.length 0 (n - l.length) (by omega) (by omega) (by omega)
    exact ⟨r, hr, fun h0r => by have := hr2 h0r; rw [List.drop_zero] at this; omega, hr3⟩
/-- How much a disk holds in all. -/
def Few (ss : List S143) (ds : List S145) : Prop := ss.length + tot (ss.map fun x => x.f0.length) + ds.length + tot (ds.map fun x => x.f1.length) ≤ 1048576
theorem szDisk_tot (ss : List S143) (ds : List S145) (h1 : ss.length ≤ 5864062014634) (h2 : ds.length ≤ 4398046510976) (k1 : short_Sheet ss) (k2 : short_Write ds) (n : Int) (hn : 0 ≤ n) (hn2 : n ≤ 1048576) : ∃ r, Ev (fun k => laws_szDisk.f k ss ds n) r ∧ (0 ≤ r → Few ss ds) := by
  unfold laws_szDisk.f
  obtain ⟨r1, e1, p1, q1⟩ := szSheetS_tot ss h1 k1 n hn hn2
  by_cases c1 : r1 < 0
  · refine ⟨-1, Ev.bind e1 ?_, fun h => absurd h (by decide)⟩
    simp only [if_pos c1]; exact Ev.now _
  obtain ⟨r2, e2, p2, q2⟩ := szWriteS_tot ds h2 k2 r1 (by omega) q1
  by_cases c2 : r2 < 0
  · refine ⟨-1, Ev.bind e1 ?_, fun h => absurd h (by decide)⟩
    simp only [if_neg c1]
    refine Ev.bind e2 ?_
    simp only [if_pos c2]; exact Ev.now _
  · refine ⟨r2, Ev.bind e1 ?_, fun h => by have := p1 (by omega); have := p2 (by omega); unfold Few; omega⟩
    simp only [if_neg c1]
    refine Ev.bind e2 ?_
    simp only [if_neg c2]; exact Ev.now _
theorem markDisk_weak (ss : List S143) (ds : List S145) (h : Few ss ds) : ∃ km, laws_markDisk.f (ss.map cv_Sheet) (ds.map cv_Write) 1 = some km ∧ 0 ≤ km := by
  have e1 : ((ss.map cv_Sheet).map fun x => x.f0.length) = ss.map fun x => x.f0.length := by rw [List.map_map]; rfl
  have e2 : ((ds.map cv_Write).map fun x => x.f1.length) = ds.map fun x => x.f1.length := by rw [List.map_map]; rfl
  unfold Few at h
  unfold laws_markDisk.f
  rw [e1, e2, List.length_map, List.length_map, if_pos ⟨by omega, by omega, by omega⟩]
  exact ⟨_, rfl, by omega⟩

/-! ### markByteS -/
theorem markByteS_l0 (l : List Int) (a : Int) (h : l.length ≤ 140737488351232) (h0 : 0 ≤ a) (h1 : a ≤ 4611686018427387904) (d : Nat) : ∀ i : Nat, i + d = l.length →
    Ev (fun k => laws_markByteS.l0 k (pat a i ++ l.drop i) (a + i) (i : Int)) (a + l.length, pat a l.length) := by
  induction d with
  | zero =>
    intro i hi
    refine Ev.step1 fun k => ?_
    simp only [laws_markByteS.l0]
    rw [if_neg (by rw [pat_drop_len _ _ (by omega)]; omega), List.drop_of_length_le (by omega), List.append_nil, show i = l.length by omega]
  | succ d ih =>
    intro i hi
    refine Ev.step (f := fun k => laws_markByteS.l0 k (pat a (i + 1) ++ l.drop (i + 1)) (a + ((i + 1 : Nat) : Int)) ((i + 1 : Nat) : Int)) (fun k => ?_) (ih (i + 1) (by omega))
    simp only [laws_markByteS.l0]
    rw [if_pos (by rw [pat_drop_len _ _ (by omega)]; omega), if_pos (by omega), Int.toNat_natCast, pat_set (by omega), wrS (by omega), wr (by omega) (by omega), show a + (i : Int) + 1 = a + ((i + 1 : Nat) : Int) by omega]
theorem markByteS_ev (l : List Int) (a : Int) (h : l.length ≤ 140737488351232) (h0 : 0 ≤ a) (h1 : a ≤ 4611686018427387904) :
    Ev (fun k => laws_markByteS.f k l a) (a + l.length, pat a l.length) := by
  unfold laws_markByteS.f
  have := markByteS_l0 l a h h0 h1 l.length 0 (by omega)
  simpa [pat] using this

/-! ### heldByteS -/
theorem heldByteS_l0 (n : Nat) (a : Int) (h : n ≤ 140737488351232) (h0 : 0 ≤ a) (h1 : a ≤ 4611686018427387904) (d : Nat) : ∀ i : Nat, i + d = n →
    Ev (fun k => laws_heldByteS.l0 k (pat a n) (a + i) (i : Int)) (a + n) := by
  induction d with
  | zero =>
    intro i hi
    refine Ev.step1 fun k => ?_
    simp only [laws_heldByteS.l0]
    rw [if_neg (by rw [pat_len]; omega), show i = n by omega]
  | succ d ih =>
    intro i hi
    refine Ev.step (f := fun k => laws_heldByteS.l0 k (pat a n) (a + ((i + 1 : Nat) : Int)) ((i + 1 : Nat) : Int)) (fun k => ?_) (ih (i + 1) (by omega))
    simp only [laws_heldByteS.l0]
    rw [if_pos (by rw [pat_len]; omega), if_pos (by omega), if_pos (rd_pat (by omega)), wrS (by omega), wr (by omega) (by omega), show a + (i : Int) + 1 = a + ((i + 1 : Nat) : Int) by omega]
theorem heldByteS_ev (n : Nat) (a : Int) (h : n ≤ 140737488351232) (h0 : 0 ≤ a) (h1 : a ≤ 4611686018427387904) : Ev (fun k => laws_heldByteS.f k (pat a n) a) (a + n) := by
  unfold laws_heldByteS.f
  have := heldByteS_l0 n a h h0 h1 n 0 (by omega)
  simpa using this

/-! ### law_FnExactDiskRead -/
theorem impl_DiskRead_ev (ss : List S122) (ds : List S124) (a : Int) (ha : -9223372036854775808 ≤ a ∧ a ≤ 9223372036854775807) (h1 : ss.length ≤ 5864062014634) (h2 : ds.length ≤ 4398046510976) : Ev (fun k => impl_DiskRead.f k ss ds a) (diskRead ss ds a) := by
  unfold impl_DiskRead.f diskRead
  refine Ev.bind (impl_DiskOk_ev ss ds h1 h2) ?_
  by_cases c : dec (diskOk ss ds) = true
  · have h := dec_iff.1 c
    simp only [if_pos c]
    rw [wr (n := (ss.length : Int) - 1) (by omega) (by omega), within_eq]
    simp only [Option.bind_some]
    by_cases c1 : (0 : Int) ≤ a ∧ a ≤ (ss.length : Int) - 1
    · simp only [if_pos (decide_eq_true c1)]
      rw [dec_t ⟨h, by omega, by omega⟩]
      obtain ⟨j, rfl⟩ := Int.eq_ofNat_of_zero_le c1.1
      exact Ev.bind (impl_read_ev h j (by omega)) (Ev.now _)
    · simp only [if_neg (fun e => c1 (of_decide_eq_true e))]
      rw [dec_f (fun f => c1 ⟨f.2.1, by have := f.2.2; omega⟩)]
      exact Ev.now _
  · simp only [if_neg c]
    rw [dec_f (fun f => c (dec_t f.1))]
    exact Ev.now _
theorem diskRead_len (ss : List S122) (ds : List S124) (a : Int) : (diskRead ss ds a).1.length ≤ 512 := by
  unfold diskRead
  by_cases c : dec (diskOk ss ds ∧ 0 ≤ a ∧ a < (ss.length : Int)) = true
  · rw [if_pos c]
    obtain ⟨h, h0, h1⟩ := dec_iff.1 c
    obtain ⟨j, rfl⟩ := Int.eq_ofNat_of_zero_le h0
    have := pageAt_len h j (by omega)
    show (pageAt ss ds (j : Int)).length ≤ 512
    omega
  · rw [if_neg c]; simp
theorem FnExactDiskRead (x0_0 : List (S143)) (x0_1 : List (S145)) (g0 : G73 (x0_0, x0_1)) (a1 : Int) (w1 : (Lit.int .i64 a1).wf = true) : ∃ k, laws_FnExactDiskRead.f k x0_0 x0_1 a1 = some true := by
  have h1 : x0_0.length ≤ 5864062014634 := by have : x0_0.length * 24 ≤ 140737488351232 := g0.1.1; omega
  have h2 : x0_1.length ≤ 4398046510976 := by have : x0_1.length * 32 ≤ 140737488351232 := g0.2.1; omega
  have k1 : short_Sheet x0_0 := fun x hx => by have : x.f0.length * 1 ≤ 140737488351232 := (g0.1.2 x hx).1; omega
  have k2 : short_Write x0_1 := fun x hx => by have : x.f1.length * 1 ≤ 140737488351232 := (g0.2.2 x hx).2.1; omega
  have m1 : (x0_0.map cv_Sheet).length ≤ 5864062014634 := by rw [List.length_map]; exact h1
  have m2 : (x0_1.map cv_Write).length ≤ 4398046510976 := by rw [List.length_map]; exact h2
  have ha := i64_bd w1
  refine Ev.rounds ?_
  unfold laws_FnExactDiskRead.f
  obtain ⟨r, hr, hsz⟩ := szDisk_tot x0_0 x0_1 h1 h2 k1 k2 1048576 (by omega) (by omega)
  refine Ev.bind hr ?_
  by_cases c : r < 0
  · simp only [if_pos c]; exact Ev.now _
  simp only [if_neg c]
  have ht := toDisk_ev _ _ h1 h2 k1 k2
  have hs := spec_DiskRead_ev (x0_0.map cv_Sheet) (x0_1.map cv_Write) a1 m1 m2
  have hi := impl_DiskRead_ev (x0_0.map cv_Sheet) (x0_1.map cv_Write) a1 ha m1 m2
  have he := eqDisk_self _ _ m1 m2 (shortD_map_Sheet k1) (shortD_map_Write k2)
  have hp := diskRead_len (x0_0.map cv_Sheet) (x0_1.map cv_Write) a1
  obtain ⟨km, hkm, hk0⟩ := markDisk_weak x0_0 x0_1 (hsz (by omega))
  revert hs hi hp
  generalize diskRead (x0_0.map cv_Sheet) (x0_1.map cv_Write) a1 = g
  intro hs hi hp
  have hq := eqByteS_self g.1 (by omega)
  have hm := markByteS_ev g.1 1 (by omega) (by omega) (by omega)
  have hd := heldByteS_ev g.1.length 1 (by omega) (by omega) (by omega)
  refine Ev.bind ht (Ev.bind hs (Ev.bind ht (Ev.bind hi (Ev.bind hq ?_))))
  simp only [if_true, bne_self_eq_false]
  refine Ev.step (f := fun k => _) (fun k => by simp only [laws_FnExactDiskRead.j0]; rfl) ?_
  simp only [Bool.false_eq_true, if_false]
  refine Ev.bind ht (Ev.bind he ?_)
  simp only [if_true, hkm, Option.bind_some, if_neg (show ¬ (km < 0) by omega)]
  refine Ev.bind hq ?_
  simp only [if_true, bne_self_eq_false]
  refine Ev.step (f := fun k => _) (fun k => by simp only [laws_FnExactDiskRead.j1]; rfl) ?_
  simp only [Bool.false_eq_true, if_false]
  refine Ev.bind hm (Ev.bind hd ?_)
  simp only [if_neg (show ¬ ((1 : Int) + (g.1.length : Int) < 0) by omega), if_true]
  refine Ev.bind ht (Ev.bind hi (Ev.bind hq ?_))
  simp only [if_true, bne_self_eq_false]
  refine Ev.step (f := fun k => _) (fun k => by simp only [laws_FnExactDiskRead.j2]; rfl) ?_
  simp only [Bool.false_eq_true, if_false]
  refine Ev.bind hd (Ev.one ?_)
  rw [if_neg (by omega), if_pos rfl]

end Go.Proofs.Ytnleeeccpepekaa.Pure
