/- The pure statement of FnExactDiskCrash: what the printed functions of this law compute answers true, for every argument within the bounds that the statement names. -/
import Derived.Test.YtnklkjkbdipohaaPFnExactDiskCrashx13
import Derived.Test.YtnklkjkbdipohaaLib
import Derived.Test.YtnklkjkbdipohaaLibOrd
import Derived.Test.YtnklkjkbdipohaaLibOpen
import Derived.Test.YtnklkjkbdipohaaLibRun
import Derived.Test.YtnklkjkbdipohaaLibMark
namespace Go.Proofs.Ytnklkjkbdipohaa.Pure
open Go Go.RowKit Go.Proofs.Ytnklkjkbdipohaa.PFnExactDiskCrash Go.Proofs.YtnklkjkbdipohaaW.PrintWords Go.Proofs.YtnklkjkbdipohaaW.PrintLast Go.Proofs.YtnklkjkbdipohaaW.PrintMore Go.Proofs.Ytnklkjkbdipohaa.Lib
set_option linter.unusedVariables false
set_option linter.unusedSimpArgs false

def G5 (x : Int) : Prop := (Lit.int .u8 x).wf = true
def G42 (xs : List (Int)) : Prop := xs.length * 1 ≤ 140737488351232 ∧ ∀ x ∈ xs, G5 x
def G162 (x : S162) : Prop := G42 x.f0
def G22 (xs : List (S162)) : Prop := xs.length * 24 ≤ 140737488351232 ∧ ∀ x ∈ xs, G162 x
def G3 (x : Int) : Prop := (Lit.int .i64 x).wf = true
def G138 (x : S138) : Prop := G3 x.f0 ∧ G42 x.f1
def G23 (xs : List (S138)) : Prop := xs.length * 32 ≤ 140737488351232 ∧ ∀ x ∈ xs, G138 x
def G25 (x : (List (S162)) × (List (S138))) : Prop := G22 x.1 ∧ G23 x.2
def G36 (xs : List (Int)) : Prop := xs.length * 8 ≤ 140737488351232 ∧ ∀ x ∈ xs, G3 x

/-! ### tearD -/
def sheet (l : List Int) : List Int := if l.length = 0 then List.replicate 512 0 else l
def clamp (n : Int) : Nat := (max 0 (min n 512)).toNat
theorem clamp_le (n : Int) : clamp n ≤ 512 := by unfold clamp; omega
def tearL (a b : List Int) (n : Int) : List Int := if (sheet a).length = 512 ∧ (sheet b).length = 512 then (sheet b).take (clamp n) ++ (sheet a).drop (clamp n) else []

/-! ### specTear -/
theorem spec_l04Sheet_eq (l : List Int) (h : l.length < 140737488355328) : spec_l04Sheet.f l = some (sheet l, (sheet l).length == 512) := by
  unfold spec_l04Sheet.f sheet
  by_cases c : (l.length : Int) = 0
  · rw [if_pos c, if_pos (by decide), if_pos (show l.length = 0 by omega), List.length_replicate]; rfl
  · rw [if_neg c, if_neg (show ¬ l.length = 0 by omega)]
    simp only [Option.bind_some, List.nil_append, List.length_nil, Nat.zero_add]
    rw [if_pos h]
    have : ((l.length : Int) == 512) = (l.length == 512) := by
      rw [Bool.eq_iff_iff]; simp only [beq_iff_eq]; omega
    rw [this]
theorem spec_Tear_l0 (a b : List Int) (n : Int) (ha : a.length = 512) (hb : b.length = 512) (d : Nat) : ∀ i : Nat, i + d = clamp n →
    Ev (fun k => spec_Tear.l0 k n (b.take i ++ a.drop i) b (i : Int)) (b.take (clamp n) ++ a.drop (clamp n)) := by
  have hc := clamp_le n
  have hcn : (clamp n : Int) = max 0 (min n 512) := by unfold clamp; omega
  induction d with
  | zero =>
    intro i hi
    refine Ev.step1 fun k => ?_
    simp only [spec_Tear.l0]
    by_cases c : (i : Int) < 512
    · rw [if_pos c, if_neg (by omega), show i = clamp n by omega]
    · rw [if_neg c, show i = clamp n by omega]
  | succ d ih =>
    intro i hi
    have hL : (b.take i ++ a.drop i).length = 512 := by rw [List.length_append, List.length_take, List.length_drop]; omega
    have hr : rd b (i : Int) = b[i]'(by omega) := by unfold rd; rw [Int.toNat_natCast]; exact getD_lt _ _ (by omega)
    have hs : (b.take i ++ a.drop i).set i (b[i]'(by omega)) = b.take (i + 1) ++ a.drop (i + 1) := by
      have e : (b.take i).length = i := by rw [List.length_take]; omega
      rw [List.set_append_right _ _ (by omega), e, Nat.sub_self, List.drop_eq_getElem_cons (by omega), List.set_cons_zero, List.take_succ_eq_append_getElem (by omega), List.append_assoc]
      rfl
    refine Ev.step (f := fun k => spec_Tear.l0 k n (b.take (i + 1) ++ a.drop (i + 1)) b ((i + 1 : Nat) : Int)) (fun k => ?_) (ih (i + 1) (by omega))
    simp only [spec_Tear.l0]
    rw [if_pos (by omega), if_pos (by omega), if_pos (by omega), if_pos (by omega), if_pos (by rw [hL]; omega), hr, Int.toNat_natCast, hs, wrS (by omega)]
theorem spec_Tear_ev (a b : List Int) (n : Int) (ha : a.length < 140737488355328) (hb : b.length < 140737488355328) : Ev (fun k => spec_Tear.f k a b n) (tearL a b n) := by
  unfold spec_Tear.f tearL
  rw [spec_l04Sheet_eq a ha, spec_l04Sheet_eq b hb]
  simp only [Option.bind_some]
  by_cases ca : (sheet a).length = 512
  · simp only [ca, beq_self_eq_true, if_true]
    by_cases cb : (sheet b).length = 512
    · simp only [cb, beq_self_eq_true, and_self, if_true]
      refine Ev.step (f := fun k => spec_Tear.l0 k n (sheet a) (sheet b) 0) (fun k => by simp only [spec_Tear.j0, Bool.not_true, Bool.false_eq_true, if_false]) ?_
      exact spec_Tear_l0 _ _ n ca cb (clamp n) 0 (by omega)
    · rw [if_neg (fun f => cb f.2)]
      have : ((sheet b).length == 512) = false := by simpa using cb
      rw [this]
      exact Ev.step1 fun k => by simp only [spec_Tear.j0, Bool.not_false, if_true]
  · rw [if_neg (fun f => ca f.1)]
    have : ((sheet a).length == 512) = false := by simpa using ca
    rw [this]
    simp only [Bool.false_eq_true, if_false]
    exact Ev.step1 fun k => by simp only [spec_Tear.j0, if_true]
theorem tearL_len (a b : List Int) (n : Int) : (tearL a b n).length ≤ 512 := by
  unfold tearL
  by_cases c : (sheet a).length = 512 ∧ (sheet b).length = 512
  · rw [if_pos c, List.length_append, List.length_take, List.length_drop]; have := clamp_le n; omega
  · rw [if_neg c]; exact Nat.zero_le _

/-! ### implTear -/
theorem tear_core (x y : List Int) (c : Nat) (hc : c ≤ 512) : (if (x.length : Int) = 512 then (if (y.length : Int) = 512 then (if 0 ≤ (c : Int) then (if (c : Int) ≤ (y.length : Int) then (if (y.take c).length < 140737488355328 then (if (c : Int) ≤ (x.length : Int) then (if (y.take c).length + (x.drop c).length < 140737488355328 then (some (y.take c ++ x.drop c)) else (none)) else (none)) else (none)) else (none)) else (none)) else (some ([] : List Int))) else (some ([] : List Int))) = some (if x.length = 512 ∧ y.length = 512 then y.take c ++ x.drop c else []) := by
  by_cases ca : (x.length : Int) = 512
  · rw [if_pos ca]
    by_cases cl : (y.length : Int) = 512
    · rw [if_pos cl, if_pos (by omega), if_pos (by omega), if_pos (by rw [List.length_take]; omega), if_pos (by omega), if_pos (by simp only [List.length_take, List.length_drop]; omega), if_pos ⟨by omega, by omega⟩]
    · rw [if_neg cl, if_neg (fun f => cl (by omega))]
  · rw [if_neg ca, if_neg (fun f => ca (by omega))]
theorem sheet_nil {l : List Int} (h : (l.length : Int) = 0) : sheet l = List.replicate 512 0 := by unfold sheet; rw [if_pos (by omega)]
theorem sheet_one {l : List Int} (h : ¬ (l.length : Int) = 0) : sheet l = l := by unfold sheet; rw [if_neg (by omega)]
theorem impl_Tear_eq (a b : List Int) (n : Int) : impl_Tear.f a b n = some (tearL a b n) := by
  have hc := clamp_le n
  have hm : (mx 0 (mn n 512) : Int) = (clamp n : Int) := by unfold clamp mx mn; split <;> split <;> omega
  have h5 : (512 : Nat) ≤ 281474976710656 := by decide
  unfold impl_Tear.f tearL
  simp only [Option.bind_some, hm, Int.toNat_natCast, List.nil_append, List.length_nil, Nat.zero_add, if_pos h5]
  by_cases ca : (a.length : Int) = 0
  · rw [if_pos ca, sheet_nil ca]
    by_cases cb : (b.length : Int) = 0
    · rw [if_pos cb, sheet_nil cb]; exact tear_core _ _ _ hc
    · rw [if_neg cb, sheet_one cb]; exact tear_core _ _ _ hc
  · rw [if_neg ca, sheet_one ca]
    by_cases cb : (b.length : Int) = 0
    · rw [if_pos cb, sheet_nil cb]; exact tear_core _ _ _ hc
    · rw [if_neg cb, sheet_one cb]; exact tear_core _ _ _ hc

/-! ### diskOkD -/
def sheetP (ss : List S101) (j : Nat) : Prop := (rd_T101 ss (j : Int)).f0.length = 0 ∨ (rd_T101 ss (j : Int)).f0.length = 512
def writeP (n : Nat) (ds : List S98) (j : Nat) : Prop := 0 ≤ (rd_T98 ds (j : Int)).f0 ∧ (rd_T98 ds (j : Int)).f0 < (n : Int) ∧ (rd_T98 ds (j : Int)).f1.length = 512
def diskOk (ss : List S101) (ds : List S98) : Prop := (∀ j, j < ss.length → sheetP ss j) ∧ (∀ j, j < ds.length → writeP ss.length ds j) ∧ 2 ≤ ss.length ∧ ss.length ≤ 400 ∧ ds.length ≤ 500

/-! ### specDiskOk -/
theorem spec_disk_l1 (ss : List S101) (ds : List S98) (h1 : ss.length ≤ 5864062014634) (h2 : ds.length ≤ 4398046510976) :
    Ev (fun k => spec_DiskOk.l1 k ds (ds.length : Int) 0 ss ds) (dec (∀ j, j < ds.length → writeP ss.length ds j) && true) := by
  refine loop_dec0 (F := fun k i => spec_DiskOk.l1 k ds (ds.length : Int) i ss ds) (Ev.step1 fun k => ?_) (fun i hi c k => ?_) (fun i hi c k => ?_)
  · simp only [spec_DiskOk.l1]
    rw [if_neg (by omega)]
  · simp only [spec_DiskOk.l1]
    unfold writeP at c
    rw [if_pos (by omega), if_pos (by omega), if_pos (by omega), if_neg (by omega), if_neg (by omega), if_pos (by omega), wrS (by omega)]
  · simp only [spec_DiskOk.l1]
    unfold writeP at c
    rw [if_pos (by omega), if_pos (by omega), if_pos (by omega)]
    by_cases c1 : (rd_T98 ds (i : Int)).f0 < 0
    · rw [if_pos c1]
    · rw [if_neg c1]
      by_cases c2 : (rd_T98 ds (i : Int)).f0 ≥ (ss.length : Int)
      · rw [if_pos c2]
      · rw [if_neg c2, if_neg (by omega)]
theorem spec_DiskOk_ev (ss : List S101) (ds : List S98) (h1 : ss.length ≤ 5864062014634) (h2 : ds.length ≤ 4398046510976) : Ev (fun k => spec_DiskOk.f k ss ds) (dec (diskOk ss ds)) := by
  unfold spec_DiskOk.f
  have no : Ev (fun k => spec_DiskOk.j0 k true ss ds) false := Ev.step1 fun k => by simp only [spec_DiskOk.j0]; rfl
  by_cases c1 : (ss.length : Int) < 2
  · simp only [if_pos c1]; rw [dec_f (fun h => by have := h.2.2.1; omega)]; exact no
  simp only [if_neg c1]
  by_cases c2 : (ss.length : Int) > 400
  · simp only [if_pos c2]; rw [dec_f (fun h => by have := h.2.2.2.1; omega)]; exact no
  simp only [if_neg c2]
  by_cases c3 : (ds.length : Int) > 500
  · rw [decide_eq_true c3, dec_f (fun h => by have := h.2.2.2.2; omega)]; exact no
  rw [decide_eq_false c3]
  have e : dec (diskOk ss ds) = (dec (∀ j, j < ss.length → sheetP ss j) && (dec (∀ j, j < ds.length → writeP ss.length ds j) && true)) := by
    rw [Bool.and_true, and_dec]
    exact dec_eq ⟨fun h => ⟨h.1, h.2.1⟩, fun h => ⟨h.1, h.2, by omega, by omega, by omega⟩⟩
  rw [e]
  refine Ev.step (f := fun k => spec_DiskOk.l0 k ss (ss.length : Int) 0 ss ds) (fun k => by simp only [spec_DiskOk.j0, Bool.false_eq_true, if_false]) ?_
  refine loop_dec0 (F := fun k i => spec_DiskOk.l0 k ss (ss.length : Int) i ss ds) (Ev.step (fun k => ?_) (spec_disk_l1 ss ds h1 h2)) (fun i hi c k => ?_) (fun i hi c k => ?_)
  · simp only [spec_DiskOk.l0]
    rw [if_neg (by omega)]
  · simp only [spec_DiskOk.l0]
    rw [if_pos (by omega), if_pos (by omega), if_pos (by omega), wrS (by omega)]
    unfold sheetP at c
    by_cases c1 : (rd_T101 ss (i : Int)).f0.length = 0
    · rw [if_pos (by omega)]
    · rw [if_neg (by omega), if_pos (by omega)]
  · simp only [spec_DiskOk.l0]
    unfold sheetP at c
    rw [if_pos (by omega), if_pos (by omega), if_pos (by omega), if_neg (by omega), if_neg (by omega)]

/-! ### within -/
theorem within_eq (x lo hi : Int) : impl_within.f x lo hi = some (decide (lo ≤ x ∧ x ≤ hi)) := by
  unfold impl_within.f
  by_cases h : x ≥ lo
  · rw [if_pos h]; simp [h]
  · rw [if_neg h]; simp; omega

/-! ### implDiskOk -/
theorem impl_disk_l1 (ss : List S101) (ds : List S98) (h1 : ss.length ≤ 5864062014634) (h2 : ds.length ≤ 4398046510976) :
    Ev (fun k => impl_DiskOk.l1 k ds (ds.length : Int) 0 ss ds) (dec (∀ j, j < ds.length → writeP ss.length ds j) && dec (2 ≤ ss.length ∧ ss.length ≤ 400 ∧ ds.length ≤ 500)) := by
  refine loop_dec0 (F := fun k i => impl_DiskOk.l1 k ds (ds.length : Int) i ss ds) (Ev.step1 fun k => ?_) (fun i hi c k => ?_) (fun i hi c k => ?_)
  · simp only [impl_DiskOk.l1]
    rw [if_neg (by omega), within_eq]
    simp only [Option.bind_some]
    by_cases c1 : (2 : Int) ≤ ss.length ∧ (ss.length : Int) ≤ 400
    · rw [if_pos (decide_eq_true c1)]; exact congrArg some (bool_dec (by rw [decide_eq_true_iff]; omega))
    · rw [if_neg (fun e => c1 (of_decide_eq_true e)), dec_f (by omega)]
  · simp only [impl_DiskOk.l1]
    unfold writeP at c
    rw [if_pos (by omega), if_pos (by omega), if_pos (by omega), wr (n := (ss.length : Int) - 1) (by omega) (by omega), within_eq]
    simp only [Option.bind_some]
    rw [if_pos (decide_eq_true (by omega)), if_pos (by omega), wrS (by omega)]
  · simp only [impl_DiskOk.l1]
    unfold writeP at c
    rw [if_pos (by omega), if_pos (by omega), if_pos (by omega), wr (n := (ss.length : Int) - 1) (by omega) (by omega), within_eq]
    simp only [Option.bind_some]
    by_cases c1 : 0 ≤ (rd_T98 ds (i : Int)).f0 ∧ (rd_T98 ds (i : Int)).f0 ≤ (ss.length : Int) - 1
    · rw [if_pos (decide_eq_true c1), if_neg (by omega)]
    · rw [if_neg (fun e => c1 (of_decide_eq_true e))]
theorem impl_DiskOk_ev (ss : List S101) (ds : List S98) (h1 : ss.length ≤ 5864062014634) (h2 : ds.length ≤ 4398046510976) : Ev (fun k => impl_DiskOk.f k ss ds) (dec (diskOk ss ds)) := by
  unfold impl_DiskOk.f
  have e : dec (diskOk ss ds) = (dec (∀ j, j < ss.length → sheetP ss j) && (dec (∀ j, j < ds.length → writeP ss.length ds j) && dec (2 ≤ ss.length ∧ ss.length ≤ 400 ∧ ds.length ≤ 500))) := by rw [and_dec, and_dec]; rfl
  rw [e]
  refine loop_dec0 (F := fun k i => impl_DiskOk.l0 k ss (ss.length : Int) i ss ds) (Ev.step (fun k => ?_) (impl_disk_l1 ss ds h1 h2)) (fun i hi c k => ?_) (fun i hi c k => ?_)
  · simp only [impl_DiskOk.l0]
    rw [if_neg (by omega)]
  · simp only [impl_DiskOk.l0]
    rw [if_pos (by omega), if_pos (by omega), if_pos (by omega), wrS (by omega)]
    unfold sheetP at c
    by_cases c1 : (rd_T101 ss (i : Int)).f0.length = 0
    · rw [if_pos (by omega)]
    · rw [if_neg (by omega), if_pos (by omega)]
  · simp only [impl_DiskOk.l0]
    unfold sheetP at c
    rw [if_pos (by omega), if_pos (by omega), if_pos (by omega), if_neg (by omega), if_neg (by omega)]

/-! ### toByteS -/
theorem toByteS_l0 (l : List Int) (h : l.length ≤ 140737488351232) (d : Nat) : ∀ i : Nat, i + d = l.length →
    Ev (fun k => laws_toByteS.l0 k l (l.take i ++ List.replicate (l.length - i) 0) (i : Int)) l := by
  induction d with
  | zero =>
    intro i hi
    refine Ev.step1 fun k => ?_
    simp only [laws_toByteS.l0]
    rw [if_neg (by omega), set_last l 0 (by omega)]
  | succ d ih =>
    intro i hi
    refine Ev.step (f := fun k => laws_toByteS.l0 k l (l.take (i + 1) ++ List.replicate (l.length - (i + 1)) 0) ((i + 1 : Nat) : Int)) (fun k => ?_) (ih (i + 1) (by omega))
    simp only [laws_toByteS.l0]
    rw [if_pos (by omega), if_pos (by omega), if_pos (by rw [len_mid _ _ (by omega)]; omega), Int.toNat_natCast, wrS (by omega), set_next l 0 _ i (by omega) (rd_nat (by omega))]
theorem toByteS_ev (l : List Int) (h : l.length ≤ 140737488351232) : Ev (fun k => laws_toByteS.f k l) l := by
  unfold laws_toByteS.f
  rw [Int.toNat_natCast]
  simp only [if_pos (show (0 : Int) ≤ l.length by omega), if_pos (show l.length ≤ 281474976710656 by omega)]
  rw [set_first]
  exact toByteS_l0 l h l.length 0 (by omega)

/-! ### eqByteS -/
theorem eqByteS_l0 (l : List Int) (h : l.length ≤ 140737488351232) (d : Nat) : ∀ i : Nat, i + d = l.length → Ev (fun k => laws_eqByteS.l0 k l l (i : Int)) true := by
  induction d with
  | zero =>
    intro i hi
    refine Ev.step1 fun k => ?_
    simp only [laws_eqByteS.l0]
    rw [if_neg (by omega)]
  | succ d ih =>
    intro i hi
    refine Ev.step (f := fun k => laws_eqByteS.l0 k l l ((i + 1 : Nat) : Int)) (fun k => ?_) (ih (i + 1) (by omega))
    simp only [laws_eqByteS.l0]
    rw [if_pos (by omega), if_pos (by omega), if_pos (by omega), if_pos trivial, wrS (by omega)]
theorem eqByteS_self (l : List Int) (h : l.length ≤ 140737488351232) : Ev (fun k => laws_eqByteS.f k l l) true := by
  unfold laws_eqByteS.f
  simp only [if_pos trivial]
  exact eqByteS_l0 l h l.length 0 (by omega)

/-! ### szByteS -/


/-! ### sheetS -/
def cv_Sheet (x : S162) : S101 := ⟨x.f0⟩
theorem rds_Sheet (l : List S162) {i : Nat} (h : i < l.length) : rd_T162 l (i : Int) = l[i] := by unfold rd_T162; rw [Int.toNat_natCast]; exact getD_lt _ _ h
theorem rdd_Sheet (l : List S101) {i : Nat} (h : i < l.length) : rd_T101 l (i : Int) = l[i] := by unfold rd_T101; rw [Int.toNat_natCast]; exact getD_lt _ _ h
/-- Every element's bytes are few enough. -/
def short_Sheet (l : List S162) : Prop := ∀ x ∈ l, x.f0.length ≤ 140737488351232
def shortD_Sheet (l : List S101) : Prop := ∀ x ∈ l, x.f0.length ≤ 140737488351232
theorem shortD_map_Sheet {l : List S162} (h : short_Sheet l) : shortD_Sheet (l.map cv_Sheet) := by
  intro x hx
  obtain ⟨y, hy, rfl⟩ := List.mem_map.1 hx
  exact h y hy
theorem toSheet_ev (b : List Int) (h : b.length ≤ 140737488351232) : Ev (fun k => laws_toSheet.f k b) b := by
  unfold laws_toSheet.f
  exact Ev.bind (toByteS_ev b h) (Ev.now _)
theorem toSheetS_l0 (l : List S162) (h : l.length ≤ 5864062014634) (hs : short_Sheet l) (d : Nat) : ∀ i : Nat, i + d = l.length →
    Ev (fun k => laws_toSheetS.l0 k l ((l.map cv_Sheet).take i ++ List.replicate ((l.map cv_Sheet).length - i) z101) (i : Int)) (l.map cv_Sheet) := by
  have hm : (l.map cv_Sheet).length = l.length := List.length_map ..
  induction d with
  | zero =>
    intro i hi
    refine Ev.step1 fun k => ?_
    simp only [laws_toSheetS.l0]
    rw [if_neg (by omega), set_last (l.map cv_Sheet) _ (by omega)]
  | succ d ih =>
    intro i hi
    have hlt : i < l.length := by omega
    have hL : ((l.map cv_Sheet).take i ++ List.replicate ((l.map cv_Sheet).length - i) z101).length = (l.map cv_Sheet).length := len_mid _ _ (by omega)
    refine Ev.step (f := fun k => (laws_toSheet.f k l[i].f0).bind fun t => (if (i : Int) < (((l.map cv_Sheet).take i ++ List.replicate ((l.map cv_Sheet).length - i) z101).length : Int) then (laws_toSheetS.l0 k l (((l.map cv_Sheet).take i ++ List.replicate ((l.map cv_Sheet).length - i) z101).set i (⟨t⟩ : S101)) ((i + 1 : Nat) : Int)) else (none))) (fun k => ?_) (Ev.bind (toSheet_ev l[i].f0 (hs _ (List.getElem_mem hlt))) ?_)
    · simp only [laws_toSheetS.l0]
      rw [if_pos (by omega), if_pos (by omega), rds_Sheet l hlt, Int.toNat_natCast, wrS (by omega)]
    · simp only [if_pos (show (i : Int) < (((l.map cv_Sheet).take i ++ List.replicate ((l.map cv_Sheet).length - i) z101).length : Int) by rw [hL]; omega)]
      rw [set_next (l.map cv_Sheet) _ _ i (by omega) (by rw [List.getElem_map]; rfl)]
      exact ih (i + 1) (by omega)
theorem toSheetS_ev (l : List S162) (h : l.length ≤ 5864062014634) (hs : short_Sheet l) : Ev (fun k => laws_toSheetS.f k l) (l.map cv_Sheet) := by
  unfold laws_toSheetS.f
  rw [Int.toNat_natCast]
  simp only [if_pos (show (0 : Int) ≤ l.length by omega), if_pos (show l.length ≤ 11728124029610 by omega)]
  have := toSheetS_l0 l h hs l.length 0 (by omega)
  rw [← set_first, List.length_map] at this
  exact this
theorem eqSheet_self (b : List Int) (h : b.length ≤ 140737488351232) : Ev (fun k => laws_eqSheet.f k b b) true := by
  unfold laws_eqSheet.f
  try simp only [if_true]
  refine Ev.bind (eqByteS_self b h) (Ev.one ?_)
  rw [if_pos rfl]
theorem eqSheetS_l0 (l : List S101) (h : l.length ≤ 5864062014634) (hs : shortD_Sheet l) (d : Nat) : ∀ i : Nat, i + d = l.length → Ev (fun k => laws_eqSheetS.l0 k l l (i : Int)) true := by
  induction d with
  | zero =>
    intro i hi
    refine Ev.step1 fun k => ?_
    simp only [laws_eqSheetS.l0]
    rw [if_neg (by omega)]
  | succ d ih =>
    intro i hi
    have hlt : i < l.length := by omega
    refine Ev.step (f := fun k => (laws_eqSheet.f k l[i].f0 l[i].f0).bind fun t => (if t = true then (laws_eqSheetS.l0 k l l ((i + 1 : Nat) : Int)) else (some false))) (fun k => ?_) (Ev.bind (eqSheet_self l[i].f0 (hs _ (List.getElem_mem hlt))) ?_)
    · simp only [laws_eqSheetS.l0]
      rw [if_pos (by omega), if_pos (by omega), if_pos (by omega), rdd_Sheet l hlt, wrS (by omega)]
    · simp only [if_true]
      exact ih (i + 1) (by omega)
theorem eqSheetS_self (l : List S101) (h : l.length ≤ 5864062014634) (hs : shortD_Sheet l) : Ev (fun k => laws_eqSheetS.f k l l) true := by
  unfold laws_eqSheetS.f
  simp only [if_pos trivial]
  exact eqSheetS_l0 l h hs l.length 0 (by omega)

/-! ### writeS -/
def cv_Write (x : S138) : S98 := ⟨x.f0, x.f1⟩
theorem rds_Write (l : List S138) {i : Nat} (h : i < l.length) : rd_T138 l (i : Int) = l[i] := by unfold rd_T138; rw [Int.toNat_natCast]; exact getD_lt _ _ h
theorem rdd_Write (l : List S98) {i : Nat} (h : i < l.length) : rd_T98 l (i : Int) = l[i] := by unfold rd_T98; rw [Int.toNat_natCast]; exact getD_lt _ _ h
/-- Every element's bytes are few enough. -/
def short_Write (l : List S138) : Prop := ∀ x ∈ l, x.f1.length ≤ 140737488351232
def shortD_Write (l : List S98) : Prop := ∀ x ∈ l, x.f1.length ≤ 140737488351232
theorem shortD_map_Write {l : List S138} (h : short_Write l) : shortD_Write (l.map cv_Write) := by
  intro x hx
  obtain ⟨y, hy, rfl⟩ := List.mem_map.1 hx
  exact h y hy
theorem toWrite_ev (a0 : Int) (b : List Int) (h : b.length ≤ 140737488351232) : Ev (fun k => laws_toWrite.f k a0 b) (a0, b) := by
  unfold laws_toWrite.f
  exact Ev.bind (toByteS_ev b h) (Ev.now _)
theorem toWriteS_l0 (l : List S138) (h : l.length ≤ 4398046510976) (hs : short_Write l) (d : Nat) : ∀ i : Nat, i + d = l.length →
    Ev (fun k => laws_toWriteS.l0 k l ((l.map cv_Write).take i ++ List.replicate ((l.map cv_Write).length - i) z98) (i : Int)) (l.map cv_Write) := by
  have hm : (l.map cv_Write).length = l.length := List.length_map ..
  induction d with
  | zero =>
    intro i hi
    refine Ev.step1 fun k => ?_
    simp only [laws_toWriteS.l0]
    rw [if_neg (by omega), set_last (l.map cv_Write) _ (by omega)]
  | succ d ih =>
    intro i hi
    have hlt : i < l.length := by omega
    have hL : ((l.map cv_Write).take i ++ List.replicate ((l.map cv_Write).length - i) z98).length = (l.map cv_Write).length := len_mid _ _ (by omega)
    refine Ev.step (f := fun k => (laws_toWrite.f k l[i].f0 l[i].f1).bind fun t => (if (i : Int) < (((l.map cv_Write).take i ++ List.replicate ((l.map cv_Write).length - i) z98).length : Int) then (laws_toWriteS.l0 k l (((l.map cv_Write).take i ++ List.replicate ((l.map cv_Write).length - i) z98).set i (⟨t.1, t.2⟩ : S98)) ((i + 1 : Nat) : Int)) else (none))) (fun k => ?_) (Ev.bind (toWrite_ev l[i].f0 l[i].f1 (hs _ (List.getElem_mem hlt))) ?_)
    · simp only [laws_toWriteS.l0]
      rw [if_pos (by omega), if_pos (by omega), rds_Write l hlt, Int.toNat_natCast, wrS (by omega)]
    · simp only [if_pos (show (i : Int) < (((l.map cv_Write).take i ++ List.replicate ((l.map cv_Write).length - i) z98).length : Int) by rw [hL]; omega)]
      rw [set_next (l.map cv_Write) _ _ i (by omega) (by rw [List.getElem_map]; rfl)]
      exact ih (i + 1) (by omega)
theorem toWriteS_ev (l : List S138) (h : l.length ≤ 4398046510976) (hs : short_Write l) : Ev (fun k => laws_toWriteS.f k l) (l.map cv_Write) := by
  unfold laws_toWriteS.f
  rw [Int.toNat_natCast]
  simp only [if_pos (show (0 : Int) ≤ l.length by omega), if_pos (show l.length ≤ 8796093022208 by omega)]
  have := toWriteS_l0 l h hs l.length 0 (by omega)
  rw [← set_first, List.length_map] at this
  exact this
theorem eqWrite_self (a0 : Int) (b : List Int) (h : b.length ≤ 140737488351232) : Ev (fun k => laws_eqWrite.f k a0 b a0 b) true := by
  unfold laws_eqWrite.f
  try simp only [if_true]
  refine Ev.bind (eqByteS_self b h) (Ev.one ?_)
  rw [if_pos rfl]
theorem eqWriteS_l0 (l : List S98) (h : l.length ≤ 4398046510976) (hs : shortD_Write l) (d : Nat) : ∀ i : Nat, i + d = l.length → Ev (fun k => laws_eqWriteS.l0 k l l (i : Int)) true := by
  induction d with
  | zero =>
    intro i hi
    refine Ev.step1 fun k => ?_
    simp only [laws_eqWriteS.l0]
    rw [if_neg (by omega)]
  | succ d ih =>
    intro i hi
    have hlt : i < l.length := by omega
    refine Ev.step (f := fun k => (laws_eqWrite.f k l[i].f0 l[i].f1 l[i].f0 l[i].f1).bind fun t => (if t = true then (laws_eqWriteS.l0 k l l ((i + 1 : Nat) : Int)) else (some false))) (fun k => ?_) (Ev.bind (eqWrite_self l[i].f0 l[i].f1 (hs _ (List.getElem_mem hlt))) ?_)
    · simp only [laws_eqWriteS.l0]
      rw [if_pos (by omega), if_pos (by omega), if_pos (by omega), rdd_Write l hlt, wrS (by omega)]
    · simp only [if_true]
      exact ih (i + 1) (by omega)
theorem eqWriteS_self (l : List S98) (h : l.length ≤ 4398046510976) (hs : shortD_Write l) : Ev (fun k => laws_eqWriteS.f k l l) true := by
  unfold laws_eqWriteS.f
  simp only [if_pos trivial]
  exact eqWriteS_l0 l h hs l.length 0 (by omega)

/-! ### diskS -/
theorem toDisk_ev (ss : List S162) (ds : List S138) (h1 : ss.length ≤ 5864062014634) (h2 : ds.length ≤ 4398046510976) (k1 : short_Sheet ss) (k2 : short_Write ds) : Ev (fun k => laws_toDisk.f k ss ds) (ss.map cv_Sheet, ds.map cv_Write) := by
  unfold laws_toDisk.f
  exact Ev.bind (toSheetS_ev ss h1 k1) (Ev.bind (toWriteS_ev ds h2 k2) (Ev.now _))
theorem eqDisk_self (ss : List S101) (ds : List S98) (h1 : ss.length ≤ 5864062014634) (h2 : ds.length ≤ 4398046510976) (k1 : shortD_Sheet ss) (k2 : shortD_Write ds) : Ev (fun k => laws_eqDisk.f k ss ds ss ds) true := by
  unfold laws_eqDisk.f
  refine Ev.bind (eqSheetS_self ss h1 k1) ?_
  simp only [if_true]
  refine Ev.bind (eqWriteS_self ds h2 k2) (Ev.one ?_)
  rw [if_pos rfl]

/-! ### heldByteS -/
theorem heldByteS_l0 (n : Nat) (a : Int) (h : n ≤ 140737488351232) (h0 : 0 ≤ a) (h1 : a ≤ 4611686018427387904) (d : Nat) : ∀ i : Nat, i + d = n →
    Ev (fun k => laws_heldByteS.l0 k (pat a n) (a + i) (i : Int)) (a + n) := by
  induction d with
  | zero =>
    intro i hi
    refine Ev.step1 fun k => ?_
    simp only [laws_heldByteS.l0]
    rw [if_neg (by rw [pat_len]; omega), show i = n by omega]
  | succ d ih =>
    intro i hi
    refine Ev.step (f := fun k => laws_heldByteS.l0 k (pat a n) (a + ((i + 1 : Nat) : Int)) ((i + 1 : Nat) : Int)) (fun k => ?_) (ih (i + 1) (by omega))
    simp only [laws_heldByteS.l0]
    rw [if_pos (by rw [pat_len]; omega), if_pos (by omega), if_pos (rd_pat (by omega)), wrS (by omega), wr (by omega) (by omega), show a + (i : Int) + 1 = a + ((i + 1 : Nat) : Int) by omega]
theorem heldByteS_ev (n : Nat) (a : Int) (h : n ≤ 140737488351232) (h0 : 0 ≤ a) (h1 : a ≤ 4611686018427387904) : Ev (fun k => laws_heldByteS.f k (pat a n) a) (a + n) := by
  unfold laws_heldByteS.f
  have := heldByteS_l0 n a h h0 h1 n 0 (by omega)
  simpa using this

/-! ### markSheetS -/
theorem totS_cons (n : Nat) (ns : List Nat) : tot (n :: ns) = n + tot ns := rfl
theorem markS_get : ∀ (l : List S101) (a : Int) (i : Nat) (h : i < l.length) (z : S101), (markS l a).getD i z = ⟨mpat (a + (tot (lens (l.take i)) : Nat)) (l[i]).f0.length⟩
  | [], _, i, h, _ => absurd h (Nat.not_lt_zero _)
  | x :: l, a, 0, h, z => by simp [markS, lens, tot]
  | x :: l, a, i + 1, h, z => by
    have := markS_get l (a + x.f0.length) i (by simpa using h) z
    simp only [markS, List.getD_cons_succ, List.take_succ_cons, List.getElem_cons_succ]
    rw [this]
    have e : a + (x.f0.length : Int) + (tot (lens (l.take i)) : Nat) = a + (tot (lens (x :: l.take i)) : Nat) := by
      show _ = a + ((x.f0.length + tot (lens (l.take i)) : Nat) : Int)
      omega
    rw [e]
theorem tot_take : ∀ (ns : List Nat) (i : Nat) (h : i < ns.length), tot (ns.take (i + 1)) = tot (ns.take i) + ns[i] ∧ tot (ns.take (i + 1)) ≤ tot ns
  | [], i, h => absurd h (Nat.not_lt_zero _)
  | n :: ns, 0, h => by simp [totS_cons, tot]
  | n :: ns, i + 1, h => by
    have := tot_take ns i (by simpa using h)
    simp only [List.take_succ_cons, totS_cons, List.getElem_cons_succ]
    try simp only [List.take_succ_cons] at this
    omega
theorem lens_take (l : List S101) (i : Nat) : lens (l.take i) = (lens l).take i := by unfold lens; rw [List.map_take]
theorem heldSheetS_l0 (l : List S101) (a : Int) (h : l.length ≤ 5864062014634) (hs : shortD_Sheet l) (h0 : 0 ≤ a) (h1 : a + (tot (lens l) : Nat) ≤ 4611686018427387904) (d : Nat) : ∀ i : Nat, i + d = l.length →
    Ev (fun k => laws_heldSheetS.l0 k (markS l a) (a + (tot (lens (l.take i)) : Nat)) (i : Int)) (a + (tot (lens l) : Nat)) := by
  have hm := markS_len l a
  induction d with
  | zero =>
    intro i hi
    refine Ev.step1 fun k => ?_
    simp only [laws_heldSheetS.l0]
    rw [if_neg (by omega), List.take_of_length_le (by omega)]
  | succ d ih =>
    intro i hi
    have hlt : i < l.length := by omega
    have ht := tot_take (lens l) i (by unfold lens; rw [List.length_map]; exact hlt)
    rw [← lens_take, ← lens_take, show (lens l)[i]'(by unfold lens; rw [List.length_map]; exact hlt) = l[i].f0.length by unfold lens; rw [List.getElem_map]] at ht
    have hb := hs _ (List.getElem_mem hlt)
    have he := heldByteS_ev l[i].f0.length (a + (tot (lens (l.take i)) : Nat)) hb (by omega) (by omega)
    refine Ev.step (f := fun k => (laws_heldByteS.f k (pat (a + (tot (lens (l.take i)) : Nat)) l[i].f0.length) (a + (tot (lens (l.take i)) : Nat))).bind fun t => (if t < 0 then (some (-1)) else (laws_heldSheetS.l0 k (markS l a) t ((i + 1 : Nat) : Int)))) (fun k => ?_) (Ev.bind he ?_)
    · simp only [laws_heldSheetS.l0]
      rw [if_pos (by omega), if_pos (by omega), wrS (by omega)]
      unfold rd_T101
      rw [Int.toNat_natCast, markS_get l a i hlt]
      rfl
    · simp only [if_neg (show ¬ (a + ((tot (lens (l.take i)) : Nat) : Int) + (l[i].f0.length : Int) < 0) by omega)]
      have := ih (i + 1) (by omega)
      rw [show a + ((tot (lens (l.take i)) : Nat) : Int) + (l[i].f0.length : Int) = a + ((tot (lens (l.take (i + 1))) : Nat) : Int) by omega]
      exact this
theorem heldSheetS_ev (l : List S101) (a : Int) (h : l.length ≤ 5864062014634) (hs : shortD_Sheet l) (h0 : 0 ≤ a) (h1 : a + (tot (lens l) : Nat) ≤ 4611686018427387904) : Ev (fun k => laws_heldSheetS.f k (markS l a) a) (a + (tot (lens l) : Nat)) := by
  unfold laws_heldSheetS.f
  have := heldSheetS_l0 l a h hs h0 h1 l.length 0 (by omega)
  simpa [lens, tot] using this
theorem markDisk_f (l : List S101) (a : Int) (h : l.length ≤ 5864062014634) (h0 : 0 ≤ a) (h1 : a + (tot (lens l) : Nat) ≤ 4611686018427387904) : laws_markDiskS.f l [] a = some (a + (tot (lens l) : Nat), markS l a, []) := by
  unfold laws_markDiskS.f
  rw [if_pos ⟨h0, h1, by omega, rfl⟩]
theorem heldDisk_ev (l : List S101) (a : Int) (h : l.length ≤ 5864062014634) (hs : shortD_Sheet l) (h0 : 0 ≤ a) (h1 : a + (tot (lens l) : Nat) ≤ 4611686018427387904) : Ev (fun k => laws_heldDisk.f k (markS l a) [] a) (a + (tot (lens l) : Nat)) := by
  unfold laws_heldDisk.f
  refine Ev.bind (heldSheetS_ev l a h hs h0 h1) ?_
  simp only [if_neg (show ¬ (a + ((tot (lens l) : Nat) : Int) < 0) by omega)]
  refine Ev.bind (a := a + ((tot (lens l) : Nat) : Int)) (Ev.step1 fun k => ?_) ?_
  · simp only [laws_heldWriteS.f, laws_heldWriteS.l0]
    rw [if_neg (by simp)]
  · simp only [if_neg (show ¬ (a + ((tot (lens l) : Nat) : Int) < 0) by omega)]
    exact Ev.now _

/-! ### crash -/
theorem impl_copyBytes_eq (b : List Int) (h : b.length ≤ 140737488351232) : impl_copyBytes.f b = some b := by
  unfold impl_copyBytes.f
  rw [if_pos (by simp only [List.length_nil]; omega), List.nil_append]
theorem impl_copy_l1 (ss : List S101) (ds : List S98) (h : ds.length ≤ 4398046510976) (hs : shortD_Write ds) (d : Nat) : ∀ i : Nat, i + d = ds.length → Ev (fun k => impl_copyDisk.l1 k ds (ds.length : Int) (i : Int) ss (ds.take i)) (ss, ds) := by
  induction d with
  | zero =>
    intro i hi
    refine Ev.step1 fun k => ?_
    simp only [impl_copyDisk.l1]
    rw [if_neg (by omega), List.take_of_length_le (by omega)]
  | succ d ih =>
    intro i hi
    have hlt : i < ds.length := by omega
    refine Ev.step (f := fun k => impl_copyDisk.l1 k ds (ds.length : Int) ((i + 1 : Nat) : Int) ss (ds.take (i + 1))) (fun k => ?_) (ih (i + 1) (by omega))
    simp only [impl_copyDisk.l1]
    rw [if_pos (by omega), if_pos (by omega), if_pos (by omega), rdd_Write ds hlt, impl_copyBytes_eq _ (hs _ (List.getElem_mem hlt)), Option.bind_some, if_pos (by rw [List.length_take]; omega), wrS (by omega), List.take_succ_eq_append_getElem hlt]
theorem impl_copy_l0 (ss : List S101) (ds : List S98) (h1 : ss.length ≤ 5864062014634) (h : ds.length ≤ 4398046510976) (hs1 : shortD_Sheet ss) (hs : shortD_Write ds) (d : Nat) : ∀ i : Nat, i + d = ss.length → Ev (fun k => impl_copyDisk.l0 k ss (ss.length : Int) (i : Int) ss ds (ss.take i)) (ss, ds) := by
  induction d with
  | zero =>
    intro i hi
    refine Ev.step (f := fun k => impl_copyDisk.l1 k ds (ds.length : Int) 0 ss ([] : List S98)) (fun k => ?_) ?_
    · simp only [impl_copyDisk.l0]
      rw [if_neg (by omega), List.take_of_length_le (by omega)]
    · have := impl_copy_l1 ss ds h hs ds.length 0 (by omega)
      simpa using this
  | succ d ih =>
    intro i hi
    have hlt : i < ss.length := by omega
    refine Ev.step (f := fun k => impl_copyDisk.l0 k ss (ss.length : Int) ((i + 1 : Nat) : Int) ss ds (ss.take (i + 1))) (fun k => ?_) (ih (i + 1) (by omega))
    simp only [impl_copyDisk.l0]
    rw [if_pos (by omega), if_pos (by omega), if_pos (by omega), rdd_Sheet ss hlt, impl_copyBytes_eq _ (hs1 _ (List.getElem_mem hlt)), Option.bind_some, if_pos (by rw [List.length_take]; omega), wrS (by omega), List.take_succ_eq_append_getElem hlt]
theorem impl_copyDisk_ev (ss : List S101) (ds : List S98) (h1 : ss.length ≤ 5864062014634) (h : ds.length ≤ 4398046510976) (hs1 : shortD_Sheet ss) (hs : shortD_Write ds) : Ev (fun k => impl_copyDisk.f k ss ds) (ss, ds) := by
  unfold impl_copyDisk.f
  have := impl_copy_l0 ss ds h1 h hs1 hs ss.length 0 (by omega)
  simpa using this
theorem spec_copy_l1 (ss : List S101) (ds : List S98) (h : ds.length ≤ 4398046510976) (hs : shortD_Write ds) (d : Nat) : ∀ i : Nat, i + d = ds.length → Ev (fun k => spec_l05Copy.l1 k ds (ds.length : Int) (i : Int) ss (ds.take i)) (ss, ds) := by
  induction d with
  | zero =>
    intro i hi
    refine Ev.step1 fun k => ?_
    simp only [spec_l05Copy.l1]
    rw [if_neg (by omega), List.take_of_length_le (by omega)]
  | succ d ih =>
    intro i hi
    have hlt : i < ds.length := by omega
    have hb := hs _ (List.getElem_mem hlt)
    refine Ev.step (f := fun k => spec_l05Copy.l1 k ds (ds.length : Int) ((i + 1 : Nat) : Int) ss (ds.take (i + 1))) (fun k => ?_) (ih (i + 1) (by omega))
    simp only [spec_l05Copy.l1, Option.bind_some, List.nil_append, List.length_nil, Nat.zero_add]
    rw [if_pos (by omega), if_pos (by omega), if_pos (by omega), rdd_Write ds hlt, if_pos (by omega), if_pos (by rw [List.length_take]; omega), wrS (by omega), List.take_succ_eq_append_getElem hlt]
theorem spec_copy_l0 (ss : List S101) (ds : List S98) (h1 : ss.length ≤ 5864062014634) (h : ds.length ≤ 4398046510976) (hs1 : shortD_Sheet ss) (hs : shortD_Write ds) (d : Nat) : ∀ i : Nat, i + d = ss.length → Ev (fun k => spec_l05Copy.l0 k ss (ss.length : Int) (i : Int) ss ds (ss.take i)) (ss, ds) := by
  induction d with
  | zero =>
    intro i hi
    refine Ev.step (f := fun k => spec_l05Copy.l1 k ds (ds.length : Int) 0 ss ([] : List S98)) (fun k => ?_) ?_
    · simp only [spec_l05Copy.l0]
      rw [if_neg (by omega), List.take_of_length_le (by omega)]
    · have := spec_copy_l1 ss ds h hs ds.length 0 (by omega)
      simpa using this
  | succ d ih =>
    intro i hi
    have hlt : i < ss.length := by omega
    have hb := hs1 _ (List.getElem_mem hlt)
    refine Ev.step (f := fun k => spec_l05Copy.l0 k ss (ss.length : Int) ((i + 1 : Nat) : Int) ss ds (ss.take (i + 1))) (fun k => ?_) (ih (i + 1) (by omega))
    simp only [spec_l05Copy.l0, Option.bind_some, List.nil_append, List.length_nil, Nat.zero_add]
    rw [if_pos (by omega), if_pos (by omega), if_pos (by omega), rdd_Sheet ss hlt, if_pos (by omega), if_pos (by rw [List.length_take]; omega), wrS (by omega), List.take_succ_eq_append_getElem hlt]
theorem spec_copy_ev (ss : List S101) (ds : List S98) (h1 : ss.length ≤ 5864062014634) (h : ds.length ≤ 4398046510976) (hs1 : shortD_Sheet ss) (hs : shortD_Write ds) : Ev (fun k => spec_l05Copy.f k ss ds) (ss, ds) := by
  unfold spec_l05Copy.f
  have := spec_copy_l0 ss ds h1 h hs1 hs ss.length 0 (by omega)
  simpa using this
/-- What is left of a crash, from the write i on. -/
def crashFrom (ds : List S98) (ks : List Int) : Nat → Nat → List S101 → List S101
  | 0, _, ss => ss
  | d + 1, i, ss => crashFrom ds ks d (i + 1) (if (i : Int) < (ks.length : Int) ∧ rd ks (i : Int) > 0 then ss.set (rd_T98 ds (i : Int)).f0.toNat (⟨tearL (rd_T101 ss (rd_T98 ds (i : Int)).f0).f0 (rd_T98 ds (i : Int)).f1 (rd ks (i : Int))⟩ : S101) else ss)
def few5 (ss : List S101) : Prop := ∀ x ∈ ss, x.f0.length ≤ 512
theorem few5_set {ss : List S101} (h : few5 ss) (i : Nat) (a b : List Int) (n : Int) : few5 (ss.set i (⟨tearL a b n⟩ : S101)) := by
  intro x hx
  rcases List.mem_or_eq_of_mem_set hx with hx | rfl
  · exact h x hx
  · exact tearL_len a b n
theorem few5_rd {ss : List S101} (h : few5 ss) (a : Int) : (rd_T101 ss a).f0.length ≤ 512 := by
  unfold rd_T101
  by_cases c : a.toNat < ss.length
  · rw [getD_lt _ _ c]; exact h _ (List.getElem_mem c)
  · rw [List.getD_eq_getElem?_getD, List.getElem?_eq_none (by omega)]; exact Nat.zero_le _
theorem crashFrom_len (ds : List S98) (ks : List Int) (d : Nat) : ∀ i ss, (crashFrom ds ks d i ss).length = ss.length := by
  induction d with
  | zero => intro i ss; rfl
  | succ d ih =>
    intro i ss
    unfold crashFrom
    rw [ih]
    split
    · rw [List.length_set]
    · rfl
theorem crashFrom_few (ds : List S98) (ks : List Int) (d : Nat) : ∀ i ss, few5 ss → few5 (crashFrom ds ks d i ss) := by
  induction d with
  | zero => intro i ss h; exact h
  | succ d ih =>
    intro i ss h
    unfold crashFrom
    refine ih _ _ ?_
    split
    · exact few5_set h _ _ _ _
    · exact h
theorem impl_crash_l0 (n : Nat) (ds : List S98) (ks : List Int) (h : ∀ j, j < ds.length → writeP n ds j) (hd : ds.length ≤ 500) (d : Nat) : ∀ (i : Nat) (ss : List S101), i + d = ds.length → ss.length = n → Ev (fun k => impl_DiskCrash.l0 k ks ds (i : Int) ss) (crashFrom ds ks d i ss) := by
  induction d with
  | zero =>
    intro i ss hi hn
    refine Ev.step1 fun k => ?_
    simp only [impl_DiskCrash.l0]
    rw [if_neg (by omega)]
    rfl
  | succ d ih =>
    intro i ss hi hn
    obtain ⟨w0, w1, w2⟩ := h i (by omega)
    unfold crashFrom
    by_cases c : (i : Int) < (ks.length : Int)
    · by_cases c2 : rd ks (i : Int) > 0
      · rw [if_pos ⟨c, c2⟩]
        refine Ev.step (fun k => ?_) (ih (i + 1) _ (by omega) (by rw [List.length_set]; exact hn))
        simp only [impl_DiskCrash.l0]
        rw [if_pos (by omega), if_pos (by omega), if_pos c, if_pos c2, if_pos w0, if_pos (by omega), impl_Tear_eq, Option.bind_some, wrS (by omega)]
      · rw [if_neg (fun f => c2 f.2)]
        refine Ev.step (fun k => ?_) (ih (i + 1) _ (by omega) hn)
        simp only [impl_DiskCrash.l0]
        rw [if_pos (by omega), if_pos (by omega), if_pos c, if_neg c2, wrS (by omega)]
    · rw [if_neg (fun f => c f.1)]
      refine Ev.step (fun k => ?_) (ih (i + 1) _ (by omega) hn)
      simp only [impl_DiskCrash.l0]
      rw [if_pos (by omega), if_pos (by omega), if_neg c, wrS (by omega)]
theorem spec_crash_l0 (n : Nat) (ds : List S98) (ks : List Int) (h : ∀ j, j < ds.length → writeP n ds j) (hd : ds.length ≤ 500) (d : Nat) : ∀ (i : Nat) (ss : List S101), i + d = ds.length → ss.length = n → few5 ss → Ev (fun k => spec_DiskCrash.l0 k ks ds (ds.length : Int) (i : Int) ss) (crashFrom ds ks d i ss, ([] : List S98)) := by
  induction d with
  | zero =>
    intro i ss hi hn hf
    refine Ev.step1 fun k => ?_
    simp only [spec_DiskCrash.l0]
    rw [if_neg (by omega)]
    rfl
  | succ d ih =>
    intro i ss hi hn hf
    obtain ⟨w0, w1, w2⟩ := h i (by omega)
    unfold crashFrom
    by_cases c : (i : Int) < (ks.length : Int)
    · by_cases c2 : rd ks (i : Int) > 0
      · rw [if_pos ⟨c, c2⟩]
        have ht := spec_Tear_ev (rd_T101 ss (rd_T98 ds (i : Int)).f0).f0 (rd_T98 ds (i : Int)).f1 (rd ks (i : Int)) (by have := few5_rd hf (rd_T98 ds (i : Int)).f0; omega) (by omega)
        refine Ev.step (f := fun k => (spec_Tear.f k (rd_T101 ss (rd_T98 ds (i : Int)).f0).f0 (rd_T98 ds (i : Int)).f1 (rd ks (i : Int))).bind fun t => spec_DiskCrash.l0 k ks ds (ds.length : Int) ((i + 1 : Nat) : Int) (ss.set (rd_T98 ds (i : Int)).f0.toNat (⟨t⟩ : S101))) (fun k => ?_) (Ev.bind ht (ih (i + 1) _ (by omega) (by rw [List.length_set]; exact hn) (few5_set hf _ _ _ _)))
        simp only [spec_DiskCrash.l0]
        rw [if_pos (by omega), if_pos (by omega), if_pos (by omega), if_pos c, if_pos c2, if_pos w0, if_pos (by omega), wrS (by omega)]
      · rw [if_neg (fun f => c2 f.2)]
        refine Ev.step (fun k => ?_) (ih (i + 1) _ (by omega) hn hf)
        simp only [spec_DiskCrash.l0]
        rw [if_pos (by omega), if_pos (by omega), if_pos (by omega), if_pos c, if_neg c2, wrS (by omega)]
    · rw [if_neg (fun f => c f.1)]
      refine Ev.step (fun k => ?_) (ih (i + 1) _ (by omega) hn hf)
      simp only [spec_DiskCrash.l0]
      rw [if_pos (by omega), if_pos (by omega), if_pos (by omega), if_neg c, if_neg (show ¬ ((0 : Nat) > 0) by decide), wrS (by omega)]
noncomputable def crashD (ss : List S101) (ds : List S98) (ks : List Int) : List S101 := if dec (diskOk ss ds) = true then crashFrom ds ks ds.length 0 ss else []
theorem diskOk_few {ss : List S101} {ds : List S98} (h : diskOk ss ds) : few5 ss := by
  intro x hx
  obtain ⟨j, hj, rfl⟩ := List.mem_iff_getElem.1 hx
  have := h.1 j hj
  unfold sheetP at this
  rw [rdd_Sheet ss hj] at this
  omega
theorem impl_DiskCrash_ev (ss : List S101) (ds : List S98) (ks : List Int) (h1 : ss.length ≤ 5864062014634) (h : ds.length ≤ 4398046510976) (hs1 : shortD_Sheet ss) (hs : shortD_Write ds) : Ev (fun k => impl_DiskCrash.f k ss ds ks) (crashD ss ds ks, ([] : List S98)) := by
  unfold impl_DiskCrash.f crashD
  refine Ev.bind (impl_DiskOk_ev ss ds h1 h) ?_
  by_cases c : dec (diskOk ss ds) = true
  · have hk := dec_iff.1 c
    simp only [if_pos c]
    refine Ev.bind (impl_copyDisk_ev ss ds h1 h hs1 hs) (Ev.bind (impl_crash_l0 ss.length ds ks hk.2.1 hk.2.2.2.2 ds.length 0 ss (by omega) rfl) (Ev.now _))
  · simp only [if_neg c]
    exact Ev.now _
theorem spec_DiskCrash_ev (ss : List S101) (ds : List S98) (ks : List Int) (h1 : ss.length ≤ 5864062014634) (h : ds.length ≤ 4398046510976) (hs1 : shortD_Sheet ss) (hs : shortD_Write ds) : Ev (fun k => spec_DiskCrash.f k ss ds ks) (crashD ss ds ks, ([] : List S98)) := by
  unfold spec_DiskCrash.f crashD
  refine Ev.bind (spec_DiskOk_ev ss ds h1 h) ?_
  by_cases c : dec (diskOk ss ds) = true
  · have hk := dec_iff.1 c
    simp only [if_pos c]
    exact Ev.bind (spec_copy_ev ss ds h1 h hs1 hs) (spec_crash_l0 ss.length ds ks hk.2.1 hk.2.2.2.2 ds.length 0 ss (by omega) rfl (diskOk_few hk))
  · simp only [if_neg c]
    exact Ev.now _
theorem crashD_few (ss : List S101) (ds : List S98) (ks : List Int) : few5 (crashD ss ds ks) ∧ (crashD ss ds ks).length ≤ 400 := by
  unfold crashD
  by_cases c : dec (diskOk ss ds) = true
  · have hk := dec_iff.1 c
    rw [if_pos c, crashFrom_len]
    exact ⟨crashFrom_few _ _ _ _ _ (diskOk_few hk), hk.2.2.2.1⟩
  · rw [if_neg c]; exact ⟨(fun x hx => absurd hx (List.not_mem_nil)), (by simp)⟩
theorem tot_few : ∀ l : List S101, few5 l → tot (lens l) ≤ 512 * l.length
  | [], _ => by simp [lens, tot]
  | x :: l, h => by
    have h1 := tot_few l (fun y hy => h y (List.mem_cons_of_mem _ hy))
    have h2 := h x List.mem_cons_self
    show x.f0.length + tot (lens l) ≤ 512 * (l.length + 1)
    omega

/-! ### markDisk -/
theorem tot_nil : tot [] = 0 := rfl
theorem tot_cons (n : Nat) (ns : List Nat) : tot (n :: ns) = n + tot ns := rfl
theorem szByteS_tot (b : List Int) (hb : b.length ≤ 140737488351232) (n : Int) (h0 : 0 ≤ n) (h1 : n ≤ 1048576) : ∃ r, laws_szByteS.f b n = some r ∧ (r < 0 ∨ 0 ≤ r ∧ r + b.length = n) := by
  unfold laws_szByteS.f
  rw [wr (by omega) (by omega)]
  split
  · exact ⟨_, rfl, .inl (by decide)⟩
  · exact ⟨_, rfl, .inr ⟨by omega, by omega⟩⟩
theorem szSheet_tot (b : List Int) (hb : b.length ≤ 140737488351232) (n : Int) (h0 : 0 ≤ n) (h1 : n ≤ 1048576) : ∃ r, laws_szSheet.f b n = some r ∧ (r < 0 ∨ 0 ≤ r ∧ r + b.length = n) := by
  unfold laws_szSheet.f
  obtain ⟨r, hr, h⟩ := szByteS_tot b hb n h0 h1
  rw [hr]
  simp only [Option.bind_some]
  split
  · exact ⟨_, rfl, .inl (by decide)⟩
  · exact ⟨_, rfl, .inr (by omega)⟩
theorem szWrite_tot (a0 : Int) (b : List Int) (hb : b.length ≤ 140737488351232) (n : Int) (h0 : 0 ≤ n) (h1 : n ≤ 1048576) : ∃ r, laws_szWrite.f a0 b n = some r ∧ (r < 0 ∨ 0 ≤ r ∧ r + b.length = n) := by
  unfold laws_szWrite.f
  obtain ⟨r, hr, h⟩ := szByteS_tot b hb n h0 h1
  rw [hr]
  simp only [Option.bind_some]
  split
  · exact ⟨_, rfl, .inl (by decide)⟩
  · exact ⟨_, rfl, .inr (by omega)⟩
theorem szSheetS_t0 (l : List S162) (h : l.length ≤ 5864062014634) (hs : short_Sheet l) (d : Nat) : ∀ (i : Nat) (n : Int), i + d = l.length → 0 ≤ n → n ≤ 1048576 → ∃ r, Ev (fun k => laws_szSheetS.l0 k l n (i : Int)) r ∧ (0 ≤ r → r + tot ((l.drop i).map fun x => x.f0.length) ≤ n) ∧ r ≤ 1048576 := by
  induction d with
  | zero =>
    intro i n hi h0 h1
    refine ⟨n, Ev.step1 fun k => ?_, fun _ => ?_, h1⟩
    · simp only [laws_szSheetS.l0]
      rw [if_neg (by omega)]
    · rw [List.drop_of_length_le (by omega)]; simp [tot_nil]
  | succ d ih =>
    intro i n hi h0 h1
    have hlt : i < l.length := by omega
    obtain ⟨q, hq, hq2⟩ := szSheet_tot l[i].f0 (hs _ (List.getElem_mem hlt)) n h0 h1
    by_cases c : q < 0
    · refine ⟨-1, Ev.step1 fun k => ?_, fun hr => absurd hr (by decide), by decide⟩
      simp only [laws_szSheetS.l0]
      rw [if_pos (by omega), if_pos (by omega), rds_Sheet l hlt, hq]
      simp only [Option.bind_some]
      rw [if_pos c]
    · obtain ⟨r, hr, hr2, hr3⟩ := ih (i + 1) q (by omega) (by omega) (by omega)
      refine ⟨r, Ev.step (fun k => ?_) hr, fun h0r => ?_, hr3⟩
      · simp only [laws_szSheetS.l0]
        rw [if_pos (by omega), if_pos (by omega), rds_Sheet l hlt, hq]
        simp only [Option.bind_some]
        rw [if_neg c, wrS (by omega)]
      · have := hr2 h0r
        rw [List.drop_eq_getElem_cons hlt, List.map_cons, tot_cons]
        omega
theorem szSheetS_tot (l : List S162) (h : l.length ≤ 5864062014634) (hs : short_Sheet l) (n : Int) (h0 : 0 ≤ n) (h1 : n ≤ 1048576) : ∃ r, Ev (fun k => laws_szSheetS.f k l n) r ∧ (0 ≤ r → r + l.length + tot (l.map fun x => x.f0.length) ≤ n) ∧ r ≤ 1048576 := by
  unfold laws_szSheetS.f
  rw [wr (by omega) (by omega)]
  by_cases c : n - (l.length : Int) < 0
  · simp only [if_pos c]; exact ⟨_, Ev.now _, fun hr => absurd hr (by decide), by decide⟩
  · simp only [if_neg c]
    obtain ⟨r, hr, hr2, hr3⟩ := szSheetS_t0 l h hs l.length 0 (n - l.length) (by omega) (by omega) (by omega)
    exact ⟨r, hr, fun h0r => by have := hr2 h0r; rw [List.drop_zero] at this; omega, hr3⟩
theorem szWriteS_t0 (l : List S138) (h : l.length ≤ 4398046510976) (hs : short_Write l) (d : Nat) : ∀ (i : Nat) (n : Int), i + d = l.length → 0 ≤ n → n ≤ 1048576 → ∃ r, Ev (fun k => laws_szWriteS.l0 k l n (i : Int)) r ∧ (0 ≤ r → r + tot ((l.drop i).map fun x => x.f1.length) ≤ n) ∧ r ≤ 1048576 := by
  induction d with
  | zero =>
    intro i n hi h0 h1
    refine ⟨n, Ev.step1 fun k => ?_, fun _ => ?_, h1⟩
    · simp only [laws_szWriteS.l0]
      rw [if_neg (by omega)]
    · rw [List.drop_of_length_le (by omega)]; simp [tot_nil]
  | succ d ih =>
    intro i n hi h0 h1
    have hlt : i < l.length := by omega
    obtain ⟨q, hq, hq2⟩ := szWrite_tot l[i].f0 l[i].f1 (hs _ (List.getElem_mem hlt)) n h0 h1
    by_cases c : q < 0
    · refine ⟨-1, Ev.step1 fun k => ?_, fun hr => absurd hr (by decide), by decide⟩
      simp only [laws_szWriteS.l0]
      rw [if_pos (by omega), if_pos (by omega), rds_Write l hlt, hq]
      simp only [Option.bind_some]
      rw [if_pos c]
    · obtain ⟨r, hr, hr2, hr3⟩ := ih (i + 1) q (by omega) (by omega) (by omega)
      refine ⟨r, Ev.step (fun k => ?_) hr, fun h0r => ?_, hr3⟩
      · simp only [laws_szWriteS.l0]
        rw [if_pos (by omega), if_pos (by omega), rds_Write l hlt, hq]
        simp only [Option.bind_some]
        rw [if_neg c, wrS (by omega)]
      · have := hr2 h0r
        rw [List.drop_eq_getElem_cons hlt, List.map_cons, tot_cons]
        omega
theorem szWriteS_tot (l : List S138) (h : l.length ≤ 4398046510976) (hs : short_Write l) (n : Int) (h0 : 0 ≤ n) (h1 : n ≤ 1048576) : ∃ r, Ev (fun k => laws_szWriteS.f k l n) r ∧ (0 ≤ r → r + l.length + tot (l.map fun x => x.f1.length) ≤ n) ∧ r ≤ 1048576 := by
  unfold laws_szWriteS.f
  rw [wr (by omega) (by omega)]
  by_cases c : n - (l.length : Int) < 0
  · simp only [if_pos c]; exact ⟨_, Ev.now _, fun hr => absurd hr (by decide), by decide⟩
  · simp only [if_neg c]
    obtain ⟨r, hr, hr2, hr3⟩ := szWriteS_t0 l h hs l.length 0 (n - l.length) (by omega) (by omega) (by omega)
    exact ⟨r, hr, fun h0r => by have := hr2 h0r; rw [List.drop_zero] at this; omega, hr3⟩
/-- How much a disk holds in all. -/
def Few (ss : List S162) (ds : List S138) : Prop := ss.length + tot (ss.map fun x => x.f0.length) + ds.length + tot (ds.map fun x => x.f1.length) ≤ 1048576
theorem szDisk_tot (ss : List S162) (ds : List S138) (h1 : ss.length ≤ 5864062014634) (h2 : ds.length ≤ 4398046510976) (k1 : short_Sheet ss) (k2 : short_Write ds) (n : Int) (hn : 0 ≤ n) (hn2 : n ≤ 1048576) : ∃ r, Ev (fun k => laws_szDisk.f k ss ds n) r ∧ (0 ≤ r → Few ss ds) := by
  unfold laws_szDisk.f
  obtain ⟨r1, e1, p1, q1⟩ := szSheetS_tot ss h1 k1 n hn hn2
  by_cases c1 : r1 < 0
  · refine ⟨-1, Ev.bind e1 ?_, fun h => absurd h (by decide)⟩
    simp only [if_pos c1]; exact Ev.now _
  obtain ⟨r2, e2, p2, q2⟩ := szWriteS_tot ds h2 k2 r1 (by omega) q1
  by_cases c2 : r2 < 0
  · refine ⟨-1, Ev.bind e1 ?_, fun h => absurd h (by decide)⟩
    simp only [if_neg c1]
    refine Ev.bind e2 ?_
    simp only [if_pos c2]; exact Ev.now _
  · refine ⟨r2, Ev.bind e1 ?_, fun h => by have := p1 (by omega); have := p2 (by omega); unfold Few; omega⟩
    simp only [if_neg c1]
    refine Ev.bind e2 ?_
    simp only [if_neg c2]; exact Ev.now _

/-! ### markIntS -/
theorem markIntS_l0 (l : List Int) (a : Int) (h : l.length ≤ 17592186044032) (h0 : 0 ≤ a) (h1 : a ≤ 2305843009213693952) (d : Nat) : ∀ i : Nat, i + d = l.length →
    Ev (fun k => laws_markIntS.l0 k (mks (fun j => a + (j : Int)) i ++ l.drop i) (a + (i : Int)) (i : Int)) (a + (l.length : Int), mks (fun j => a + (j : Int)) l.length) := by
  induction d with
  | zero =>
    intro i hi
    refine Ev.step1 fun k => ?_
    simp only [laws_markIntS.l0]
    rw [if_neg (by rw [mks_drop_len _ _ (by omega)]; omega), show i = l.length by omega, mks_all]
  | succ d ih =>
    intro i hi
    refine Ev.step (fun k => ?_) (ih (i + 1) (by omega))
    simp only [laws_markIntS.l0]
    rw [if_pos (by rw [mks_drop_len _ _ (by omega)]; omega), if_pos (by omega), Int.toNat_natCast, mks_set _ _ (by omega), mks_put, wrS (by omega), wr (by omega) (by omega), show a + (i : Int) + 1 = a + ((i + 1 : Nat) : Int) by omega]
theorem markIntS_ev (l : List Int) (a : Int) (h : l.length ≤ 17592186044032) (h0 : 0 ≤ a) (h1 : a ≤ 2305843009213693952) :
    Ev (fun k => laws_markIntS.f k l a) (a + l.length, mks (fun j => a + (j : Int)) l.length) := by
  unfold laws_markIntS.f
  have := markIntS_l0 l a h h0 h1 l.length 0 (by omega)
  simpa [mks_zero] using this

/-! ### intS -/
theorem toIntS_l0 (l : List Int) (h : l.length ≤ 17592186044032) (d : Nat) : ∀ i : Nat, i + d = l.length →
    Ev (fun k => laws_toIntS.l0 k l (l.take i ++ List.replicate (l.length - i) 0) (i : Int)) l := by
  induction d with
  | zero =>
    intro i hi
    refine Ev.step1 fun k => ?_
    simp only [laws_toIntS.l0]
    rw [if_neg (by omega), set_last l 0 (by omega)]
  | succ d ih =>
    intro i hi
    refine Ev.step (f := fun k => laws_toIntS.l0 k l (l.take (i + 1) ++ List.replicate (l.length - (i + 1)) 0) ((i + 1 : Nat) : Int)) (fun k => ?_) (ih (i + 1) (by omega))
    simp only [laws_toIntS.l0]
    rw [if_pos (by omega), if_pos (by omega), if_pos (by rw [len_mid _ _ (by omega)]; omega), Int.toNat_natCast, wrS (by omega), set_next l 0 _ i (by omega) (rd_nat (by omega))]
theorem toIntS_ev (l : List Int) (h : l.length ≤ 17592186044032) : Ev (fun k => laws_toIntS.f k l) l := by
  unfold laws_toIntS.f
  rw [Int.toNat_natCast]
  simp only [if_pos (show (0 : Int) ≤ l.length by omega), if_pos (show l.length ≤ 35184372088832 by omega)]
  rw [set_first]
  exact toIntS_l0 l h l.length 0 (by omega)
theorem eqIntS_l0 (l : List Int) (h : l.length ≤ 17592186044032) (d : Nat) : ∀ i : Nat, i + d = l.length → Ev (fun k => laws_eqIntS.l0 k l l (i : Int)) true := by
  induction d with
  | zero =>
    intro i hi
    refine Ev.step1 fun k => ?_
    simp only [laws_eqIntS.l0]
    rw [if_neg (by omega)]
  | succ d ih =>
    intro i hi
    refine Ev.step (f := fun k => laws_eqIntS.l0 k l l ((i + 1 : Nat) : Int)) (fun k => ?_) (ih (i + 1) (by omega))
    simp only [laws_eqIntS.l0]
    rw [if_pos (by omega), if_pos (by omega), if_pos (by omega), if_pos trivial, wrS (by omega)]
theorem eqIntS_self (l : List Int) (h : l.length ≤ 17592186044032) : Ev (fun k => laws_eqIntS.f k l l) true := by
  unfold laws_eqIntS.f
  simp only [if_pos trivial]
  exact eqIntS_l0 l h l.length 0 (by omega)

/-! ### law_FnExactDiskCrash -/
theorem markDisk_weak2 (ss : List S162) (ds : List S138) (h : Few ss ds) : ∃ km, laws_markDisk.f (ss.map cv_Sheet) (ds.map cv_Write) 1 = some km ∧ 0 ≤ km ∧ km ≤ 4194304 := by
  have e1 : ((ss.map cv_Sheet).map fun x => x.f0.length) = ss.map fun x => x.f0.length := by rw [List.map_map]; rfl
  have e2 : ((ds.map cv_Write).map fun x => x.f1.length) = ds.map fun x => x.f1.length := by rw [List.map_map]; rfl
  unfold Few at h
  unfold laws_markDisk.f
  rw [e1, e2, List.length_map, List.length_map, if_pos ⟨by omega, by omega, by omega⟩]
  exact ⟨_, rfl, by omega, by omega⟩
theorem FnExactDiskCrash (x0_0 : List (S162)) (x0_1 : List (S138)) (g0 : G25 (x0_0, x0_1)) (l1 : List Int) (g1 : G36 l1) : laws_FnExactDiskCrash.Ok x0_0 x0_1 l1 := by
  by_cases cq : (l1.length : Int) > 1048576
  · exact .inl ⟨0, cq⟩
  have h1 : x0_0.length ≤ 5864062014634 := by have : x0_0.length * 24 ≤ 140737488351232 := g0.1.1; omega
  have h2 : x0_1.length ≤ 4398046510976 := by have : x0_1.length * 32 ≤ 140737488351232 := g0.2.1; omega
  have k1 : short_Sheet x0_0 := fun x hx => by have : x.f0.length * 1 ≤ 140737488351232 := (g0.1.2 x hx).1; omega
  have k2 : short_Write x0_1 := fun x hx => by have : x.f1.length * 1 ≤ 140737488351232 := (g0.2.2 x hx).2.1; omega
  have m1 : (x0_0.map cv_Sheet).length ≤ 5864062014634 := by rw [List.length_map]; exact h1
  have m2 : (x0_1.map cv_Write).length ≤ 4398046510976 := by rw [List.length_map]; exact h2
  obtain ⟨r, hr, hsz⟩ := szDisk_tot x0_0 x0_1 h1 h2 k1 k2 1048576 (by omega) (by omega)
  by_cases c : r < 0
  · obtain ⟨n0, e0⟩ := hr
    exact .inr (.inl ⟨n0, r, e0 n0 (Nat.le_refl _), c, by omega⟩)
  · have ht := toDisk_ev _ _ h1 h2 k1 k2
    have hti := toIntS_ev l1 (by omega)
    have hei := eqIntS_self l1 (by omega)
    have he := eqDisk_self _ _ m1 m2 (shortD_map_Sheet k1) (shortD_map_Write k2)
    obtain ⟨km, hkm, hk0, hk1⟩ := markDisk_weak2 x0_0 x0_1 (hsz (by omega))
    have hmi := markIntS_ev l1 km (by omega) hk0 (by omega)
    have hi := impl_DiskCrash_ev (x0_0.map cv_Sheet) (x0_1.map cv_Write) l1 m1 m2 (shortD_map_Sheet k1) (shortD_map_Write k2)
    have hs := spec_DiskCrash_ev (x0_0.map cv_Sheet) (x0_1.map cv_Write) l1 m1 m2 (shortD_map_Sheet k1) (shortD_map_Write k2)
    obtain ⟨hf, hl⟩ := crashD_few (x0_0.map cv_Sheet) (x0_1.map cv_Write) l1
    revert hi hs hf hl
    generalize crashD (x0_0.map cv_Sheet) (x0_1.map cv_Write) l1 = R
    intro hi hs hf hl
    have htot := tot_few R hf
    have hsh : shortD_Sheet R := fun x hx => by have := hf x hx; omega
    have hq := eqDisk_self R ([] : List S98) (by omega) (by simp) hsh (fun x hx => by simp at hx)
    have hd := heldDisk_ev R 1 (by omega) hsh (by omega) (by omega)
    have hm := markDisk_f R 1 (by omega) (by omega) (by omega)
    obtain ⟨n0, e0⟩ := hr
    obtain ⟨n1, e1⟩ := ht
    obtain ⟨n2, e2⟩ := he
    obtain ⟨n3, e3⟩ := hi
    obtain ⟨n4, e4⟩ := hs
    obtain ⟨n5, e5⟩ := hq
    obtain ⟨n6, e6⟩ := hd
    obtain ⟨n7, e7⟩ := hti
    obtain ⟨n8, e8⟩ := hei
    obtain ⟨n9, e9⟩ := hmi
    refine .inr (.inr ⟨n0 + n1 + n2 + n3 + n4 + n5 + n6 + n7 + n8 + n9, r, _, _, R, [], km, km + (l1.length : Int), _, markS R 1, [], 1 + (tot (lens R) : Nat), e0 _ (by omega), e1 _ (by omega), e7 _ (by omega), e4 _ (by omega), e1 _ (by omega), e7 _ (by omega), e3 _ (by omega), e5 _ (by omega), e1 _ (by omega), e2 _ (by omega), e7 _ (by omega), e8 _ (by omega), hkm, e9 _ (by omega), e5 _ (by omega), hm, e6 _ (by omega), e1 _ (by omega), e7 _ (by omega), e3 _ (by omega), e5 _ (by omega), e6 _ (by omega), by omega, by omega, by omega, by omega, markS_len _ _, rfl⟩)

end Go.Proofs.Ytnklkjkbdipohaa.Pure
