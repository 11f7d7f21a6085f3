/- The pure statement of FnExactCut: what the printed functions of this law compute answers true, for every argument within the bounds that the statement names. -/
import Derived.Test.YtnleeeccpepekaaPFnExactCutx7
import Derived.Test.YtnleeeccpepekaaLib
import Derived.Test.YtnleeeccpepekaaLibOrd
import Derived.Test.YtnleeeccpepekaaLibOpen
import Derived.Test.YtnleeeccpepekaaLibMax
import Derived.Test.YtnleeeccpepekaaLibMark
namespace Go.Proofs.Ytnleeeccpepekaa.Pure
open Go Go.RowKit Go.Proofs.Ytnleeeccpepekaa.PFnExactCut Go.Proofs.YtnleeeccpepekaaW.PrintWords Go.Proofs.YtnleeeccpepekaaW.PrintLast Go.Proofs.YtnleeeccpepekaaW.PrintMore Go.Proofs.Ytnleeeccpepekaa.Lib
set_option linter.unusedVariables false
set_option linter.unusedSimpArgs false

def G9 (s : ByteArray) : Prop := s.size ≤ 140737488351232
def G40 (xs : List (ByteArray)) : Prop := xs.length * 16 ≤ 140737488351232 ∧ ∀ x ∈ xs, G9 x
def G79 (x : (ByteArray) × (ByteArray)) : Prop := G9 x.1 ∧ G9 x.2

/-! ### within -/
theorem within_eq (x lo hi : Int) : impl_within.f x lo hi = some (decide (lo ≤ x ∧ x ≤ hi)) := by
  unfold impl_within.f
  by_cases h : x ≥ lo
  · rw [if_pos h]; simp [h]
  · rw [if_neg h]; simp; omega

/-! ### keyOk -/
def keyP (s : ByteArray) : Prop := 1 ≤ s.size ∧ s.size ≤ 16
instance (s : ByteArray) : Decidable (keyP s) := inferInstanceAs (Decidable (_ ∧ _))
theorem spec_KeyOk_eq (s : ByteArray) : spec_KeyOk.f s = some (decide (keyP s)) := by
  unfold spec_KeyOk.f
  by_cases h : (s.size : Int) ≥ 1
  · rw [if_pos h]; exact sd (by unfold keyP; omega)
  · rw [if_neg h]; exact sdf (by unfold keyP; omega)
theorem impl_KeyOk_eq (s : ByteArray) : impl_KeyOk.f s = some (decide (keyP s)) := by
  unfold impl_KeyOk.f; rw [within_eq]; simp only [Option.bind_some]; exact sd (by unfold keyP; omega)

/-! ### stepOk -/
def keyAt (l : List ByteArray) (j : Nat) : ByteArray := l.getD j ByteArray.empty
/-- The key at j is right, and stands behind the one ahead of it. -/
def stepOk (l : List ByteArray) (j : Nat) : Prop := keyP (keyAt l j) ∧ (0 < j → Op.bytesLess (keyAt l (j - 1)).toList (keyAt l j).toList = true)

/-! ### splitsOk -/
def splitsOk (l : List ByteArray) : Prop := l.length ≤ 3 ∧ ∀ j, j < l.length → stepOk l j
theorem spec_splits_l0 (l : List ByteArray) (h : l.length ≤ 8796093021952) (d : Nat) : ∀ i : Nat, i + d = l.length →
    Ev (fun k => spec_SplitsOk.l0 k l l (l.length : Int) (i : Int)) (dec (∀ j, i ≤ j → j < l.length → stepOk l j)) := by
  induction d with
  | zero =>
    intro i hi
    rw [dec_t (fun j h1 h2 => absurd h1 (by omega))]
    refine Ev.step1 fun k => ?_
    simp only [spec_SplitsOk.l0]
    rw [if_neg (by omega)]
  | succ d ih =>
    intro i hi
    have hk : rdOf ByteArray.empty l (i : Int) = keyAt l i := rdOf_nat _ _ _
    by_cases c : stepOk l i
    · rw [dec_eq (q := ∀ j, i + 1 ≤ j → j < l.length → stepOk l j) ⟨fun f j h1 h2 => f j (by omega) h2, fun f j h1 h2 => by
        by_cases e : j = i
        · rw [e]; exact c
        · exact f j (by omega) h2⟩]
      refine Ev.step (f := fun k => spec_SplitsOk.l0 k l l (l.length : Int) ((i + 1 : Nat) : Int)) (fun k => ?_) (ih (i + 1) (by omega))
      simp only [spec_SplitsOk.l0]
      rw [if_pos (by omega), if_pos (by omega), if_pos (by omega), hk, spec_KeyOk_eq]
      simp only [Option.bind_some]
      rw [if_pos (decide_eq_true c.1)]
      by_cases h0 : (i : Int) > 0
      · have hk2 : rdOf ByteArray.empty l ((i - 1 : Nat) : Int) = keyAt l (i - 1) := rdOf_nat _ _ _
        rw [if_pos h0, wrP (by omega) (by omega), if_pos (by omega), if_pos (by omega), hk2, if_pos (c.2 (by omega)), wrS (by omega)]
      · rw [if_neg h0, wrS (by omega)]
    · rw [dec_f (fun f => c (f i (Nat.le_refl _) (by omega)))]
      refine Ev.step1 fun k => ?_
      simp only [spec_SplitsOk.l0]
      rw [if_pos (by omega), if_pos (by omega), if_pos (by omega), hk, spec_KeyOk_eq]
      simp only [Option.bind_some]
      by_cases c1 : keyP (keyAt l i)
      · rw [if_pos (decide_eq_true c1)]
        have h0 : 0 < i := by
          rcases Nat.eq_zero_or_pos i with h0 | h0
          · exact absurd ⟨c1, fun h => by omega⟩ c
          · exact h0
        have hk2 : rdOf ByteArray.empty l ((i - 1 : Nat) : Int) = keyAt l (i - 1) := rdOf_nat _ _ _
        rw [if_pos (by omega), wrP (by omega) (by omega), if_pos (by omega), if_pos (by omega), hk2, if_neg (fun e => c ⟨c1, fun _ => e⟩)]
      · rw [if_neg (fun e => c1 (of_decide_eq_true e))]
theorem spec_SplitsOk_ev (l : List ByteArray) (h : l.length ≤ 8796093021952) : Ev (fun k => spec_SplitsOk.f k l) (dec (splitsOk l)) := by
  unfold spec_SplitsOk.f
  by_cases c : (l.length : Int) > 3
  · simp only [if_pos c]; rw [dec_f (fun f => by have := f.1; omega)]; exact Ev.now _
  · simp only [if_neg c]
    rw [dec_eq (q := ∀ j, 0 ≤ j → j < l.length → stepOk l j) ⟨fun f j _ h => f.2 j h, fun f => ⟨by omega, fun j h => f j (by omega) h⟩⟩]
    exact spec_splits_l0 l h l.length 0 (by omega)
theorem impl_splits_l0 (l : List ByteArray) (h : l.length ≤ 8796093021952) (d : Nat) : ∀ i : Nat, i + d = l.length →
    Ev (fun k => impl_SplitsOk.l0 k l l (l.length : Int) (i : Int)) (dec (l.length ≤ 3 ∧ ∀ j, i ≤ j → j < l.length → stepOk l j)) := by
  induction d with
  | zero =>
    intro i hi
    refine Ev.step1 fun k => ?_
    simp only [impl_SplitsOk.l0]
    rw [if_neg (by omega), decide_dec]
    congr 1
    exact dec_eq ⟨fun f => ⟨by omega, fun j h1 h2 => absurd h1 (by omega)⟩, fun f => by have := f.1; omega⟩
  | succ d ih =>
    intro i hi
    have hk : rdOf ByteArray.empty l (i : Int) = keyAt l i := rdOf_nat _ _ _
    by_cases c : stepOk l i
    · rw [dec_eq (q := l.length ≤ 3 ∧ ∀ j, i + 1 ≤ j → j < l.length → stepOk l j) ⟨fun f => ⟨f.1, fun j h1 h2 => f.2 j (by omega) h2⟩, fun f => ⟨f.1, fun j h1 h2 => by
        by_cases e : j = i
        · rw [e]; exact c
        · exact f.2 j (by omega) h2⟩⟩]
      refine Ev.step (f := fun k => impl_SplitsOk.l0 k l l (l.length : Int) ((i + 1 : Nat) : Int)) (fun k => ?_) (ih (i + 1) (by omega))
      simp only [impl_SplitsOk.l0]
      rw [if_pos (by omega), if_pos (by omega), if_pos (by omega), hk, impl_KeyOk_eq]
      simp only [Option.bind_some]
      rw [if_pos (decide_eq_true c.1)]
      by_cases h0 : (i : Int) > 0
      · have hk2 : rdOf ByteArray.empty l ((i - 1 : Nat) : Int) = keyAt l (i - 1) := rdOf_nat _ _ _
        rw [if_pos h0, wrP (by omega) (by omega), if_pos (by omega), if_pos (by omega), hk2, if_pos (c.2 (by omega)), wrS (by omega)]
      · rw [if_neg h0, wrS (by omega)]
    · rw [dec_f (fun f => c (f.2 i (Nat.le_refl _) (by omega)))]
      refine Ev.step1 fun k => ?_
      simp only [impl_SplitsOk.l0]
      rw [if_pos (by omega), if_pos (by omega), if_pos (by omega), hk, impl_KeyOk_eq]
      simp only [Option.bind_some]
      by_cases c1 : keyP (keyAt l i)
      · rw [if_pos (decide_eq_true c1)]
        have h0 : 0 < i := by
          rcases Nat.eq_zero_or_pos i with h0 | h0
          · exact absurd ⟨c1, fun h => by omega⟩ c
          · exact h0
        have hk2 : rdOf ByteArray.empty l ((i - 1 : Nat) : Int) = keyAt l (i - 1) := rdOf_nat _ _ _
        rw [if_pos (by omega), wrP (by omega) (by omega), if_pos (by omega), if_pos (by omega), hk2, if_neg (fun e => c ⟨c1, fun _ => e⟩)]
      · rw [if_neg (fun e => c1 (of_decide_eq_true e))]
theorem impl_SplitsOk_ev (l : List ByteArray) (h : l.length ≤ 8796093021952) : Ev (fun k => impl_SplitsOk.f k l) (dec (splitsOk l)) := by
  unfold impl_SplitsOk.f
  rw [dec_eq (q := l.length ≤ 3 ∧ ∀ j, 0 ≤ j → j < l.length → stepOk l j) ⟨fun f => ⟨f.1, fun j _ h => f.2 j h⟩, fun f => ⟨f.1, fun j h => f.2 j (by omega) h⟩⟩]
  exact impl_splits_l0 l h l.length 0 (by omega)

/-! ### partOf -/
noncomputable def partOf (l : List ByteArray) (i : Int) : ByteArray × ByteArray × Bool :=
  if dec (splitsOk l ∧ 0 ≤ i ∧ i ≤ l.length) = true then ((if 0 < i then keyAt l (i.toNat - 1) else ⟨#[]⟩), (if i < l.length then keyAt l i.toNat else ⟨#[]⟩), true) else (⟨#[]⟩, ⟨#[]⟩, false)
theorem part_core (l : List ByteArray) (h : l.length ≤ 8796093021952) (i : Int) (h0 : 0 ≤ i) (h1 : i ≤ l.length) :
    (if i > 0 then (if 0 ≤ wrap64 (i - 1) then (if wrap64 (i - 1) < (l.length : Int) then (if i < (l.length : Int) then (if 0 ≤ i then (some (rdOf ByteArray.empty l (wrap64 (i - 1)), rdOf ByteArray.empty l i, true)) else (none)) else (some (rdOf ByteArray.empty l (wrap64 (i - 1)), (⟨#[]⟩ : ByteArray), true))) else (none)) else (none)) else (if i < (l.length : Int) then (if 0 ≤ i then (some ((⟨#[]⟩ : ByteArray), rdOf ByteArray.empty l i, true)) else (none)) else (some ((⟨#[]⟩ : ByteArray), (⟨#[]⟩ : ByteArray), true))))
    = some ((if 0 < i then keyAt l (i.toNat - 1) else ⟨#[]⟩), (if i < l.length then keyAt l i.toNat else ⟨#[]⟩), true) := by
  obtain ⟨n, rfl⟩ := Int.eq_ofNat_of_zero_le h0
  have hk : rdOf ByteArray.empty l (n : Int) = keyAt l n := rdOf_nat _ _ _
  rw [Int.toNat_natCast, hk]
  by_cases c : (n : Int) > 0
  · have hk2 : rdOf ByteArray.empty l ((n - 1 : Nat) : Int) = keyAt l (n - 1) := rdOf_nat _ _ _
    rw [if_pos c, wrP (by omega) (by omega), if_pos (by omega), if_pos (by omega), hk2, if_pos (show (0 : Int) < (n : Int) from c)]
    by_cases c2 : (n : Int) < l.length
    · rw [if_pos c2, if_pos h0, if_pos c2]
    · rw [if_neg c2, if_neg c2]
  · rw [if_neg c, if_neg (show ¬ (0 : Int) < (n : Int) from c)]
    by_cases c2 : (n : Int) < l.length
    · rw [if_pos c2, if_pos h0, if_pos c2]
    · rw [if_neg c2, if_neg c2]
theorem partOf_no {l : List ByteArray} {i : Int} (h : ¬ (splitsOk l ∧ 0 ≤ i ∧ i ≤ l.length)) : partOf l i = (⟨#[]⟩, ⟨#[]⟩, false) := by unfold partOf; rw [if_neg (fun e => h (dec_iff.1 e))]
theorem partOf_yes {l : List ByteArray} {i : Int} (h : splitsOk l ∧ 0 ≤ i ∧ i ≤ l.length) : partOf l i = ((if 0 < i then keyAt l (i.toNat - 1) else ⟨#[]⟩), (if i < l.length then keyAt l i.toNat else ⟨#[]⟩), true) := by unfold partOf; rw [if_pos (dec_t h)]

/-! ### specPartOf -/
theorem spec_PartOf_ev (l : List ByteArray) (h : l.length ≤ 8796093021952) (i : Int) : Ev (fun k => spec_PartOf.f k l i) (partOf l i) := by
  unfold spec_PartOf.f
  refine Ev.bind (spec_SplitsOk_ev l h) ?_
  have no : ¬ (splitsOk l ∧ 0 ≤ i ∧ i ≤ l.length) → Ev (fun k => spec_PartOf.j0 k l i true) (partOf l i) := fun f => by
    rw [partOf_no f]
    exact Ev.step1 fun k => by simp only [spec_PartOf.j0]; rfl
  by_cases c : splitsOk l
  · simp only [if_pos (dec_t c)]
    by_cases c1 : i < 0
    · simp only [if_pos c1]
      exact no (fun f => by have := f.2.1; omega)
    · simp only [if_neg c1]
      by_cases c2 : i > (l.length : Int)
      · rw [decide_eq_true c2]; exact no (fun f => by have := f.2.2; omega)
      · rw [decide_eq_false c2, partOf_yes ⟨c, by omega, by omega⟩]
        refine Ev.step1 fun k => ?_
        simp only [spec_PartOf.j0]
        rw [if_neg (by decide)]
        exact part_core l h i (by omega) (by omega)
  · simp only [if_neg (fun e => c (dec_iff.1 e))]
    exact no (fun f => c f.1)

/-! ### implPartOf -/
theorem impl_PartOf_ev (l : List ByteArray) (h : l.length ≤ 8796093021952) (i : Int) : Ev (fun k => impl_PartOf.f k l i) (partOf l i) := by
  unfold impl_PartOf.f
  refine Ev.bind (impl_SplitsOk_ev l h) ?_
  have no : ¬ (splitsOk l ∧ 0 ≤ i ∧ i ≤ l.length) → Ev (fun k => impl_PartOf.j0 k l i true) (partOf l i) := fun f => by
    rw [partOf_no f]
    exact Ev.step1 fun k => by simp only [impl_PartOf.j0]; rfl
  by_cases c : splitsOk l
  · simp only [if_pos (dec_t c)]
    simp only [within_eq, Option.bind_some]
    by_cases c2 : 0 ≤ i ∧ i ≤ (l.length : Int)
    · rw [decide_eq_true c2, Bool.not_true, partOf_yes ⟨c, c2.1, c2.2⟩]
      refine Ev.step1 fun k => ?_
      simp only [impl_PartOf.j0]
      rw [if_neg (by decide)]
      exact part_core l h i c2.1 c2.2
    · rw [decide_eq_false c2, Bool.not_false]; exact no (fun f => c2 f.2)
  · simp only [if_neg (fun e => c (dec_iff.1 e))]
    exact no (fun f => c f.1)

/-! ### rangeOk -/
def ltB (a b : ByteArray) : Bool := Op.bytesLess a.toList b.toList
def rangeOk (lo hi : ByteArray) : Prop := lo.size ≤ 17 ∧ hi.size ≤ 17 ∧ (hi.size = 0 ∨ ltB lo hi = true)
instance (lo hi : ByteArray) : Decidable (rangeOk lo hi) := inferInstanceAs (Decidable (_ ∧ _ ∧ _))
theorem spec_RangeOk_eq (lo hi : ByteArray) : spec_RangeOk.f lo hi = some (decide (rangeOk lo hi)) := by
  unfold spec_RangeOk.f
  by_cases h1 : (lo.size : Int) > 17
  · rw [if_pos h1]; exact sdf (fun h => by have := h.1; omega)
  · rw [if_neg h1]
    by_cases h2 : (hi.size : Int) > 17
    · rw [if_pos h2]; exact sdf (fun h => by have := h.2.1; omega)
    · rw [if_neg h2]
      by_cases h3 : hi.toList = []
      · rw [if_pos h3]; exact sdt ⟨by omega, by omega, .inl (tl_nil.1 h3)⟩
      · rw [if_neg h3]
        show some (ltB lo hi) = _
        congr 1
        cases e : ltB lo hi with
        | true => exact (decide_eq_true ⟨by omega, by omega, .inr e⟩).symm
        | false => exact (decide_eq_false (fun h => by rcases h.2.2 with h | h; exact h3 (tl_nil.2 h); rw [e] at h; cases h)).symm

/-! ### implRangeOk -/
theorem impl_RangeOk_eq (lo hi : ByteArray) : impl_RangeOk.f lo hi = some (decide (rangeOk lo hi)) := by
  rw [← spec_RangeOk_eq]
  unfold impl_RangeOk.f spec_RangeOk.f
  by_cases h1 : (lo.size : Int) > 17
  · rw [if_pos h1, if_neg (by omega)]
  · rw [if_neg h1, if_pos (by omega)]
    by_cases h2 : (hi.size : Int) > 17
    · rw [if_pos h2, if_neg (by omega)]
    · rw [if_neg h2, if_pos (by omega)]

/-! ### rangeBoth -/
def noR : ByteArray × ByteArray × Bool := ((⟨#[]⟩ : ByteArray), (⟨#[]⟩ : ByteArray), false)
def bothFin (lo hi : ByteArray) : ByteArray × ByteArray × Bool := if rangeOk lo hi then (lo, hi, true) else noR
def bothHi (b d : ByteArray) : ByteArray := if b.toList = [] then d else if d.toList = [] then b else if Op.bytesLess d.toList b.toList = true then d else b
def rangeBoth (a b c d : ByteArray) : ByteArray × ByteArray × Bool := if rangeOk a b ∧ rangeOk c d then bothFin (Ord.smax a c) (bothHi b d) else noR
theorem bothFin_t {lo hi : ByteArray} (h : rangeOk lo hi) : bothFin lo hi = (lo, hi, true) := by unfold bothFin; rw [if_pos h]
theorem bothFin_f {lo hi : ByteArray} (h : ¬ rangeOk lo hi) : bothFin lo hi = noR := by unfold bothFin; rw [if_neg h]
theorem spec_both_end (lo hi : ByteArray) : ((spec_RangeOk.f lo hi).bind fun t => (if t = true then (some (lo, hi, true)) else (some ((⟨#[]⟩ : ByteArray), (⟨#[]⟩ : ByteArray), false)))) = some (bothFin lo hi) := by
  rw [spec_RangeOk_eq]
  simp only [Option.bind_some]
  by_cases h : rangeOk lo hi
  · rw [if_pos (decide_eq_true h), bothFin_t h]
  · rw [if_neg (fun e => h (of_decide_eq_true e)), bothFin_f h]; rfl
theorem impl_both_end (lo hi : ByteArray) : ((impl_RangeOk.f lo hi).bind fun t => (if t = true then (some (lo, hi, true)) else (some ((⟨#[]⟩ : ByteArray), (⟨#[]⟩ : ByteArray), false)))) = some (bothFin lo hi) := by
  rw [impl_RangeOk_eq, ← spec_RangeOk_eq]; exact spec_both_end lo hi
theorem spec_both_j2 (t : Bool) (a b c d : ByteArray) : Ev (fun k => spec_RangeBoth.j2 k t a b c d) (bothFin a (if t = true then d else b)) := by
  refine Ev.step1 fun k => ?_
  simp only [spec_RangeBoth.j2]
  rw [spec_both_end, spec_both_end]
  cases t <;> rfl
theorem spec_both_j1 (a b c d : ByteArray) : Ev (fun k => spec_RangeBoth.j1 k a b c d) (bothFin a (bothHi b d)) := by
  unfold bothHi
  by_cases h1 : b.toList = []
  · rw [if_pos h1]
    exact Ev.step (fun k => by simp only [spec_RangeBoth.j1]; rw [if_pos h1]) (spec_both_j2 true a b c d)
  · rw [if_neg h1]
    by_cases h2 : d.toList = []
    · rw [if_pos h2]
      exact Ev.step (fun k => by simp only [spec_RangeBoth.j1]; rw [if_neg h1, if_pos h2]) (spec_both_j2 false a b c d)
    · rw [if_neg h2]
      exact Ev.step (fun k => by simp only [spec_RangeBoth.j1]; rw [if_neg h1, if_neg h2]) (spec_both_j2 _ a b c d)
theorem spec_RangeBoth_ev (a b c d : ByteArray) : Ev (fun k => spec_RangeBoth.f k a b c d) (rangeBoth a b c d) := by
  unfold spec_RangeBoth.f rangeBoth
  rw [spec_RangeOk_eq, spec_RangeOk_eq]
  simp only [Option.bind_some]
  have no : Ev (fun k => spec_RangeBoth.j0 k true a b c d) noR := Ev.step1 fun k => by simp only [spec_RangeBoth.j0]; rfl
  by_cases h1 : rangeOk a b
  · simp only [if_pos (decide_eq_true h1)]
    by_cases h2 : rangeOk c d
    · rw [if_pos ⟨h1, h2⟩, decide_eq_true h2]
      unfold Ord.smax
      by_cases h3 : Op.bytesLess a.toList c.toList = true
      · rw [if_pos h3]
        exact Ev.step (fun k => by simp only [spec_RangeBoth.j0, Bool.not_true, Bool.false_eq_true, if_false]; rw [if_pos h3]) (spec_both_j1 c b c d)
      · rw [if_neg h3]
        exact Ev.step (fun k => by simp only [spec_RangeBoth.j0, Bool.not_true, Bool.false_eq_true, if_false]; rw [if_neg h3]) (spec_both_j1 a b c d)
    · rw [if_neg (fun f => h2 f.2), decide_eq_false h2]
      exact no
  · simp only [if_neg (show ¬ (decide (rangeOk a b) = true) from fun e => h1 (of_decide_eq_true e))]
    rw [if_neg (fun f => h1 f.1)]
    exact no
theorem impl_both_j1 (t : Bool) (m a b d : ByteArray) : Ev (fun k => impl_RangeBoth.j1 k t m d a b) (bothFin a (if t = true then d else b)) := by
  refine Ev.step1 fun k => ?_
  simp only [impl_RangeBoth.j1]
  rw [impl_both_end, impl_both_end]
  cases t <;> rfl
theorem impl_RangeBoth_ev (a b c d : ByteArray) : Ev (fun k => impl_RangeBoth.f k a b c d) (rangeBoth a b c d) := by
  unfold impl_RangeBoth.f rangeBoth
  rw [impl_RangeOk_eq, impl_RangeOk_eq]
  simp only [Option.bind_some]
  have no : Ev (fun k => impl_RangeBoth.j0 k true a b c d) noR := Ev.step1 fun k => by simp only [impl_RangeBoth.j0]; rfl
  by_cases h1 : rangeOk a b
  · simp only [if_pos (decide_eq_true h1)]
    by_cases h2 : rangeOk c d
    · rw [if_pos ⟨h1, h2⟩, decide_eq_true h2]
      unfold bothHi
      by_cases h3 : b.toList = []
      · rw [if_pos h3]
        exact Ev.step (fun k => by simp only [impl_RangeBoth.j0, Bool.not_true, Bool.false_eq_true, if_false]; rw [if_pos h3]) (impl_both_j1 true c _ b d)
      · rw [if_neg h3]
        by_cases h4 : d.toList = []
        · rw [if_pos h4]
          exact Ev.step (fun k => by simp only [impl_RangeBoth.j0, Bool.not_true, Bool.false_eq_true, if_false]; rw [if_neg h3, if_pos h4]) (impl_both_j1 false c _ b d)
        · rw [if_neg h4]
          exact Ev.step (fun k => by simp only [impl_RangeBoth.j0, Bool.not_true, Bool.false_eq_true, if_false]; rw [if_neg h3, if_neg h4]) (impl_both_j1 _ c _ b d)
    · rw [if_neg (fun f => h2 f.2), decide_eq_false h2]
      exact no
  · simp only [if_neg (show ¬ (decide (rangeOk a b) = true) from fun e => h1 (of_decide_eq_true e))]
    rw [if_neg (fun f => h1 f.1)]
    exact no

/-! ### cut -/
noncomputable def cutAt (l : List ByteArray) (c d : ByteArray) (i : Nat) : List S131 :=
  if (partOf l (i : Int)).2.2 = true ∧ (rangeBoth (partOf l (i : Int)).1 (partOf l (i : Int)).2.1 c d).2.2 = true then [⟨(i : Int), ⟨(rangeBoth (partOf l (i : Int)).1 (partOf l (i : Int)).2.1 c d).1, (rangeBoth (partOf l (i : Int)).1 (partOf l (i : Int)).2.1 c d).2.1⟩⟩] else []
noncomputable def cutFrom (l : List ByteArray) (c d : ByteArray) (i m : Nat) : List S131 := (List.range' i m).flatMap (cutAt l c d)
theorem cutFrom_succ (l : List ByteArray) (c d : ByteArray) (i m : Nat) : cutFrom l c d i (m + 1) = cutAt l c d i ++ cutFrom l c d (i + 1) m := by simp [cutFrom, List.range'_succ]
theorem cutAt_len (l : List ByteArray) (c d : ByteArray) (i : Nat) : (cutAt l c d i).length ≤ 1 := by unfold cutAt; split <;> simp
theorem cutFrom_len (l : List ByteArray) (c d : ByteArray) (m : Nat) : ∀ i, (cutFrom l c d i m).length ≤ m := by
  induction m with
  | zero => intro i; simp [cutFrom]
  | succ m ih => intro i; rw [cutFrom_succ, List.length_append]; have := ih (i + 1); have := cutAt_len l c d i; omega
theorem cutFrom_none {l : List ByteArray} (h : ¬ splitsOk l) (c d : ByteArray) (m : Nat) : ∀ i, cutFrom l c d i m = [] := by
  induction m with
  | zero => intro i; simp [cutFrom]
  | succ m ih =>
    intro i
    rw [cutFrom_succ, ih, List.append_nil]
    unfold cutAt
    rw [partOf_no (fun f => h f.1)]
    rfl
noncomputable def cut (l : List ByteArray) (c d : ByteArray) : List S131 := cutFrom l c d 0 (l.length + 1)
theorem cut_len (l : List ByteArray) (c d : ByteArray) : (cut l c d).length ≤ 4 := by
  by_cases h : splitsOk l
  · have := cutFrom_len l c d (l.length + 1) 0; have := h.1; unfold cut; omega
  · unfold cut; rw [cutFrom_none h]; simp
theorem cut_short {l : List ByteArray} {i : Nat} (h : (partOf l (i : Int)).2.2 = true) : splitsOk l := by
  by_cases c : splitsOk l
  · exact c
  · rw [partOf_no (fun f => c f.1)] at h; cases h
theorem spec_cut_l0 (l : List ByteArray) (h : l.length ≤ 8796093021952) (c d : ByteArray) (m : Nat) : ∀ (i : Nat) (acc : List S131), i + m = l.length + 1 → acc.length ≤ i →
    Ev (fun k => spec_Cut.l0 k l acc (i : Int) c d) (acc ++ cutFrom l c d i m) := by
  induction m with
  | zero =>
    intro i acc hi ha
    refine Ev.step1 fun k => ?_
    simp only [spec_Cut.l0]
    rw [if_neg (by omega)]
    simp [cutFrom]
  | succ m ih =>
    intro i acc hi ha
    refine Ev.step (fun k => by simp only [spec_Cut.l0]; rw [if_pos (show (i : Int) ≤ (l.length : Int) by omega), wrS (by omega)]) (Ev.bind (spec_PartOf_ev l h (i : Int)) (Ev.bind (spec_RangeBoth_ev _ _ _ _) ?_))
    rw [cutFrom_succ, ← List.append_assoc]
    have hc := cutAt_len l c d i
    by_cases p1 : (partOf l (i : Int)).2.2 = true
    · by_cases p2 : (rangeBoth (partOf l (i : Int)).1 (partOf l (i : Int)).2.1 c d).2.2 = true
      · have e : cutAt l c d i = [⟨(i : Int), ⟨(rangeBoth (partOf l (i : Int)).1 (partOf l (i : Int)).2.1 c d).1, (rangeBoth (partOf l (i : Int)).1 (partOf l (i : Int)).2.1 c d).2.1⟩⟩] := by unfold cutAt; rw [if_pos ⟨p1, p2⟩]
        have := (cut_short p1).1
        simp only [if_pos p1, if_pos p2, if_pos (show acc.length < 3518437208883 by omega)]
        rw [e]
        exact ih (i + 1) _ (by omega) (by simp; omega)
      · have e : cutAt l c d i = [] := by unfold cutAt; rw [if_neg (fun f => p2 f.2)]
        simp only [if_pos p1, if_neg p2]
        rw [e, List.append_nil]
        exact ih (i + 1) _ (by omega) (by omega)
    · have e : cutAt l c d i = [] := by unfold cutAt; rw [if_neg (fun f => p1 f.1)]
      simp only [if_neg p1]
      rw [e, List.append_nil]
      exact ih (i + 1) _ (by omega) (by omega)
theorem spec_Cut_ev (l : List ByteArray) (h : l.length ≤ 8796093021952) (c d : ByteArray) : Ev (fun k => spec_Cut.f k l c d) (cut l c d) := by
  unfold spec_Cut.f
  exact spec_cut_l0 l h c d (l.length + 1) 0 [] (by omega) (by simp)
theorem impl_cut_l0 (l : List ByteArray) (h : l.length ≤ 8796093021952) (hs : splitsOk l) (c d : ByteArray) (m : Nat) : ∀ (i : Nat) (acc : List S131), i + m = l.length + 1 → acc.length ≤ i →
    Ev (fun k => impl_Cut.l0 k l acc ((l.length + 1 : Nat) : Int) (i : Int) c d) (acc ++ cutFrom l c d i m) := by
  have := hs.1
  induction m with
  | zero =>
    intro i acc hi ha
    refine Ev.step1 fun k => ?_
    simp only [impl_Cut.l0]
    rw [if_neg (by omega)]
    simp [cutFrom]
  | succ m ih =>
    intro i acc hi ha
    refine Ev.step (fun k => by simp only [impl_Cut.l0]; rw [if_pos (show (i : Int) < ((l.length + 1 : Nat) : Int) by omega), wrS (by omega)]) (Ev.bind (impl_PartOf_ev l h (i : Int)) (Ev.bind (impl_RangeBoth_ev _ _ _ _) ?_))
    rw [cutFrom_succ, ← List.append_assoc]
    have p1 : (partOf l (i : Int)).2.2 = true := by rw [partOf_yes ⟨hs, by omega, by omega⟩]
    by_cases p2 : (rangeBoth (partOf l (i : Int)).1 (partOf l (i : Int)).2.1 c d).2.2 = true
    · have e : cutAt l c d i = [⟨(i : Int), ⟨(rangeBoth (partOf l (i : Int)).1 (partOf l (i : Int)).2.1 c d).1, (rangeBoth (partOf l (i : Int)).1 (partOf l (i : Int)).2.1 c d).2.1⟩⟩] := by unfold cutAt; rw [if_pos ⟨p1, p2⟩]
      simp only [if_pos p2, if_pos (show acc.length < 3518437208883 by omega)]
      rw [e]
      exact ih (i + 1) _ (by omega) (by simp; omega)
    · have e : cutAt l c d i = [] := by unfold cutAt; rw [if_neg (fun f => p2 f.2)]
      simp only [if_neg p2]
      rw [e, List.append_nil]
      exact ih (i + 1) _ (by omega) (by omega)
theorem impl_Cut_ev (l : List ByteArray) (h : l.length ≤ 8796093021952) (c d : ByteArray) : Ev (fun k => impl_Cut.f k l c d) (cut l c d) := by
  unfold impl_Cut.f
  simp only [Option.bind_some]
  refine Ev.bind (impl_SplitsOk_ev l h) ?_
  by_cases hs : splitsOk l
  · simp only [if_pos (dec_t hs), show wrap64 ((l.length : Int) + 1) = ((l.length + 1 : Nat) : Int) from wrS (by omega)]
    exact impl_cut_l0 l h hs c d (l.length + 1) 0 [] (by omega) (by simp)
  · simp only [if_neg (fun e => hs (dec_iff.1 e))]
    unfold cut
    rw [cutFrom_none hs]
    exact Ev.now _

/-! ### markText -/
theorem markText_l0 (n : Nat) : ∀ s : ByteArray, n ≤ 4611686018427387904 → s.size + n ≤ 4611686018427388904 → ∃ r, Ev (fun k => laws_markText.l0 k (n : Int) s) r := by
  induction n using Nat.strongRecOn with
  | _ n ih =>
    intro s h hs
    by_cases c : (n : Int) > 0
    · obtain ⟨r, hr⟩ := ih (n / 10) (by omega) (strOfNums [(wrap64 (48 + (Int.tmod (n : Int) 10))) % 256] ++ s) (by omega) (by rw [ByteArray.size_append, size_son]; simp; omega)
      refine ⟨r, Ev.step (fun k => ?_) hr⟩
      simp only [laws_markText.l0]
      rw [if_pos c]
      simp only [Option.bind_some]
      rw [if_pos (by rw [size_son]; simp; omega), show Int.tdiv (n : Int) 10 = ((n / 10 : Nat) : Int) from tdiv_nat n 10, wr (n := ((n / 10 : Nat) : Int)) (by omega) (by omega)]
    · refine ⟨(⟨#[109]⟩ : ByteArray) ++ s, Ev.step1 fun k => ?_⟩
      simp only [laws_markText.l0]
      rw [if_neg c, if_pos (by omega)]
theorem markText_some (a : Int) (h : a ≤ 4611686018427387904) : ∃ r, Ev (fun k => laws_markText.f k a) r := by
  unfold laws_markText.f
  by_cases c : a ≤ 0
  · simp only [if_pos c]; exact ⟨_, Ev.now _⟩
  · simp only [if_neg c]
    obtain ⟨n, rfl⟩ := Int.eq_ofNat_of_zero_le (show 0 ≤ a by omega)
    exact markText_l0 n _ (by omega) (by show 0 + n ≤ _; omega)
/-- A mark's text. -/
noncomputable def mtx (a : Int) : ByteArray := if h : a ≤ 4611686018427387904 then (markText_some a h).choose else ⟨#[]⟩
theorem markText_ev (a : Int) (h : a ≤ 4611686018427387904) : Ev (fun k => laws_markText.f k a) (mtx a) := by unfold mtx; rw [dif_pos h]; exact (markText_some a h).choose_spec

/-! ### eqRange -/
theorem eqRange_self (a b : ByteArray) : laws_eqRange.f a b a b = some true := by
  unfold laws_eqRange.f; rw [if_pos rfl, if_pos rfl]

/-! ### partS -/
theorem rd_part (l : List S131) (i : Nat) : rd_T131 l (i : Int) = l.getD i z131 := by unfold rd_T131; rw [Int.toNat_natCast]
theorem eqPart_self (a : Int) (b c : ByteArray) : laws_eqPart.f a b c a b c = some true := by
  unfold laws_eqPart.f; rw [if_pos rfl, eqRange_self]; rfl
theorem eqPartS_l0 (l : List S131) (h : l.length ≤ 8796093021952) (d : Nat) : ∀ i : Nat, i + d = l.length → Ev (fun k => laws_eqPartS.l0 k l l (i : Int)) true := by
  induction d with
  | zero =>
    intro i hi
    refine Ev.step1 fun k => ?_
    simp only [laws_eqPartS.l0]
    rw [if_neg (by omega)]
  | succ d ih =>
    intro i hi
    refine Ev.step (f := fun k => laws_eqPartS.l0 k l l ((i + 1 : Nat) : Int)) (fun k => ?_) (ih (i + 1) (by omega))
    simp only [laws_eqPartS.l0]
    rw [if_pos (by omega), if_pos (by omega), if_pos (by omega), eqPart_self]
    simp only [Option.bind_some]
    rw [if_pos trivial, wrS (by omega)]
theorem eqPartS_self (l : List S131) (h : l.length ≤ 8796093021952) : Ev (fun k => laws_eqPartS.f k l l) true := by
  unfold laws_eqPartS.f
  simp only [if_pos trivial]
  exact eqPartS_l0 l h l.length 0 (by omega)
noncomputable def mpart (a : Int) (j : Nat) : S131 := ⟨a + 3 * j, ⟨mtx (a + 3 * j + 1), mtx (a + 3 * j + 2)⟩⟩
theorem markPartS_l0 (l : List S131) (a : Int) (h : l.length ≤ 8796093021952) (h0 : 0 ≤ a) (h1 : a ≤ 2305843009213693952) (d : Nat) : ∀ i : Nat, i + d = l.length →
    Ev (fun k => laws_markPartS.l0 k (mks (mpart a) i ++ l.drop i) (a + 3 * (i : Int)) (i : Int)) (a + 3 * (l.length : Int), mks (mpart a) l.length) := by
  induction d with
  | zero =>
    intro i hi
    refine Ev.step1 fun k => ?_
    simp only [laws_markPartS.l0]
    rw [if_neg (by rw [mks_drop_len _ _ (by omega)]; omega), show i = l.length by omega, mks_all]
  | succ d ih =>
    intro i hi
    have e1 : wrap64 (a + 3 * (i : Int) + 1) = a + 3 * (i : Int) + 1 := wr (by omega) (by omega)
    have e2 : wrap64 (a + 3 * (i : Int) + 1 + 1) = a + 3 * (i : Int) + 2 := by rw [wr (by omega) (by omega)]; omega
    have e3 : wrap64 (a + 3 * (i : Int) + 2 + 1) = a + 3 * ((i + 1 : Nat) : Int) := by rw [wr (by omega) (by omega)]; omega
    obtain ⟨u, hu⟩ : ∃ u, u = l.drop (i + 1) := ⟨_, rfl⟩
    refine Ev.step (f := fun k => (laws_markText.f k (a + 3 * (i : Int) + 1)).bind fun t => (laws_markText.f k (a + 3 * (i : Int) + 2)).bind fun s => laws_markPartS.l0 k (mks (mpart a) i ++ (⟨a + 3 * (i : Int), ⟨t, s⟩⟩ : S131) :: l.drop (i + 1)) (a + 3 * ((i + 1 : Nat) : Int)) ((i + 1 : Nat) : Int)) (fun k => ?_) (Ev.bind (markText_ev _ (by omega)) (Ev.bind (markText_ev _ (by omega)) ?_))
    · simp only [laws_markPartS.l0]
      rw [if_pos (by rw [mks_drop_len _ _ (by omega)]; omega), if_pos (by omega), Int.toNat_natCast, mks_set _ _ (by omega), wrS (by omega)]
      simp only [Option.bind_some]
      rw [e1, e2, e3]
      congr 1
      funext t
      simp only [rd_part, mks_at, mks_set2]
    · have := ih (i + 1) (by omega)
      rw [← mks_put] at this
      exact this
theorem markPartS_ev (l : List S131) (a : Int) (h : l.length ≤ 8796093021952) (h0 : 0 ≤ a) (h1 : a ≤ 2305843009213693952) :
    Ev (fun k => laws_markPartS.f k l a) (a + 3 * (l.length : Int), mks (mpart a) l.length) := by
  unfold laws_markPartS.f
  have := markPartS_l0 l a h h0 h1 l.length 0 (by omega)
  simpa [mks_zero] using this
theorem heldPartS_l0 (n : Nat) (a : Int) (h : n ≤ 8796093021952) (h0 : 0 ≤ a) (h1 : a ≤ 2305843009213693952) (d : Nat) : ∀ i : Nat, i + d = n →
    Ev (fun k => laws_heldPartS.l0 k (mks (mpart a) n) (a + 3 * (i : Int)) (i : Int)) (a + 3 * (n : Int)) := by
  induction d with
  | zero =>
    intro i hi
    refine Ev.step1 fun k => ?_
    simp only [laws_heldPartS.l0]
    rw [if_neg (by rw [mks_len]; omega), show i = n by omega]
  | succ d ih =>
    intro i hi
    have e1 : wrap64 (a + 3 * (i : Int) + 1) = a + 3 * (i : Int) + 1 := wr (by omega) (by omega)
    have e2 : wrap64 (a + 3 * (i : Int) + 1 + 1) = a + 3 * (i : Int) + 2 := by rw [wr (by omega) (by omega)]; omega
    have e3 : wrap64 (a + 3 * (i : Int) + 2 + 1) = a + 3 * ((i + 1 : Nat) : Int) := by rw [wr (by omega) (by omega)]; omega
    refine Ev.step (f := fun k => (laws_markText.f k (a + 3 * (i : Int) + 1)).bind fun t => (if (mpart a i).f1.f0.toList = t.toList then ((laws_markText.f k (a + 3 * (i : Int) + 2)).bind fun s => (if (mpart a i).f1.f1.toList = s.toList then (laws_heldPartS.l0 k (mks (mpart a) n) (a + 3 * ((i + 1 : Nat) : Int)) ((i + 1 : Nat) : Int)) else (some (-1)))) else (some (-1)))) (fun k => ?_) (Ev.bind (markText_ev _ (by omega)) ?_)
    · simp only [laws_heldPartS.l0]
      rw [if_pos (by rw [mks_len]; omega), if_pos (by omega), rd_part, mks_get _ _ (by omega), if_pos (show (mpart a i).f0 = a + 3 * (i : Int) from rfl), e1, e2, e3, wrS (by omega)]
    · simp only [mpart, if_true]
      refine Ev.bind (markText_ev _ (by omega)) ?_
      simp only [if_true]
      exact ih (i + 1) (by omega)
theorem heldPartS_ev (n : Nat) (a : Int) (h : n ≤ 8796093021952) (h0 : 0 ≤ a) (h1 : a ≤ 2305843009213693952) : Ev (fun k => laws_heldPartS.f k (mks (mpart a) n) a) (a + 3 * (n : Int)) := by
  unfold laws_heldPartS.f
  have := heldPartS_l0 n a h h0 h1 n 0 (by omega)
  simpa using this

/-! ### stringS -/
theorem toStringS_l0 (l : List ByteArray) (h : l.length ≤ 8796093021952) (d : Nat) : ∀ i : Nat, i + d = l.length →
    Ev (fun k => laws_toStringS.l0 k l (l.take i ++ List.replicate (l.length - i) (⟨#[]⟩ : ByteArray)) (i : Int)) l := by
  induction d with
  | zero =>
    intro i hi
    refine Ev.step1 fun k => ?_
    simp only [laws_toStringS.l0]
    rw [if_neg (by omega), set_last l _ (by omega)]
  | succ d ih =>
    intro i hi
    refine Ev.step (f := fun k => laws_toStringS.l0 k l (l.take (i + 1) ++ List.replicate (l.length - (i + 1)) (⟨#[]⟩ : ByteArray)) ((i + 1 : Nat) : Int)) (fun k => ?_) (ih (i + 1) (by omega))
    simp only [laws_toStringS.l0]
    rw [if_pos (by omega), if_pos (by omega), if_pos (by rw [len_mid _ _ (by omega)]; omega), Int.toNat_natCast, wrS (by omega), rdOf_nat, set_next l _ _ i (by omega) (getD_lt _ _ (by omega))]
theorem toStringS_ev (l : List ByteArray) (h : l.length ≤ 8796093021952) : Ev (fun k => laws_toStringS.f k l) l := by
  unfold laws_toStringS.f
  rw [Int.toNat_natCast]
  simp only [if_pos (show (0 : Int) ≤ l.length by omega), if_pos (show l.length ≤ 17592186044416 by omega)]
  rw [set_first]
  exact toStringS_l0 l h l.length 0 (by omega)
theorem eqStringS_l0 (l : List ByteArray) (h : l.length ≤ 8796093021952) (d : Nat) : ∀ i : Nat, i + d = l.length → Ev (fun k => laws_eqStringS.l0 k l l (i : Int)) true := by
  induction d with
  | zero =>
    intro i hi
    refine Ev.step1 fun k => ?_
    simp only [laws_eqStringS.l0]
    rw [if_neg (by omega)]
  | succ d ih =>
    intro i hi
    refine Ev.step (f := fun k => laws_eqStringS.l0 k l l ((i + 1 : Nat) : Int)) (fun k => ?_) (ih (i + 1) (by omega))
    simp only [laws_eqStringS.l0]
    rw [if_pos (by omega), if_pos (by omega), if_pos (by omega), if_pos trivial, wrS (by omega)]
theorem eqStringS_self (l : List ByteArray) (h : l.length ≤ 8796093021952) : Ev (fun k => laws_eqStringS.f k l l) true := by
  unfold laws_eqStringS.f
  simp only [if_pos trivial]
  exact eqStringS_l0 l h l.length 0 (by omega)
theorem szStringS_l0 (l : List ByteArray) (h : l.length ≤ 8796093021952) (d : Nat) : ∀ (i : Nat) (n : Int), i + d = l.length → ∃ r, Ev (fun k => laws_szStringS.l0 k l n (i : Int)) r := by
  induction d with
  | zero =>
    intro i n hi
    refine ⟨n, Ev.step1 fun k => ?_⟩
    simp only [laws_szStringS.l0]
    rw [if_neg (by omega)]
  | succ d ih =>
    intro i n hi
    by_cases c : wrap64 (n - ((rdOf ByteArray.empty l (i : Int)).size : Int)) < 0
    · refine ⟨-1, Ev.step1 fun k => ?_⟩
      simp only [laws_szStringS.l0]
      rw [if_pos (by omega), if_pos (by omega), if_pos c]
    · obtain ⟨r, hr⟩ := ih (i + 1) (wrap64 (n - ((rdOf ByteArray.empty l (i : Int)).size : Int))) (by omega)
      refine ⟨r, Ev.step (fun k => ?_) hr⟩
      simp only [laws_szStringS.l0]
      rw [if_pos (by omega), if_pos (by omega), if_neg c, wrS (by omega)]
theorem szStringS_some (l : List ByteArray) (h : l.length ≤ 8796093021952) (n : Int) : ∃ r, Ev (fun k => laws_szStringS.f k l n) r := by
  unfold laws_szStringS.f
  by_cases c : wrap64 (n - (l.length : Int)) < 0
  · simp only [if_pos c]; exact ⟨_, Ev.now _⟩
  · simp only [if_neg c]; exact szStringS_l0 l h l.length 0 _ (by omega)

/-! ### szRange -/
theorem szRange_some (a b : ByteArray) (n : Int) : ∃ r, laws_szRange.f a b n = some r := by
  unfold laws_szRange.f
  split
  · exact ⟨_, rfl⟩
  · split <;> exact ⟨_, rfl⟩

/-! ### markStringS -/
theorem markStringS_l0 (l : List ByteArray) (a : Int) (h : l.length ≤ 8796093021952) (h0 : 0 ≤ a) (h1 : a ≤ 2305843009213693952) (d : Nat) : ∀ i : Nat, i + d = l.length →
    Ev (fun k => laws_markStringS.l0 k (mks (fun j => mtx (a + j)) i ++ l.drop i) (a + i) (i : Int)) (a + l.length, mks (fun j => mtx (a + j)) l.length) := by
  induction d with
  | zero =>
    intro i hi
    refine Ev.step1 fun k => ?_
    simp only [laws_markStringS.l0]
    rw [if_neg (by rw [mks_drop_len _ _ (by omega)]; omega), show i = l.length by omega, mks_all]
  | succ d ih =>
    intro i hi
    refine Ev.step (f := fun k => (laws_markText.f k (a + i)).bind fun t => laws_markStringS.l0 k (mks (fun j => mtx (a + j)) i ++ t :: l.drop (i + 1)) (a + ((i + 1 : Nat) : Int)) ((i + 1 : Nat) : Int)) (fun k => ?_) (Ev.bind (markText_ev _ (by omega)) ?_)
    · simp only [laws_markStringS.l0]
      rw [if_pos (by rw [mks_drop_len _ _ (by omega)]; omega), wrS (by omega), wr (by omega) (by omega), show a + (i : Int) + 1 = a + ((i + 1 : Nat) : Int) by omega]
      congr 1
      funext t
      rw [if_pos (by omega), Int.toNat_natCast, mks_set _ _ (by omega)]
    · have := ih (i + 1) (by omega)
      rw [← mks_put] at this
      exact this
theorem markStringS_ev (l : List ByteArray) (a : Int) (h : l.length ≤ 8796093021952) (h0 : 0 ≤ a) (h1 : a ≤ 2305843009213693952) :
    Ev (fun k => laws_markStringS.f k l a) (a + l.length, mks (fun j => mtx (a + j)) l.length) := by
  unfold laws_markStringS.f
  have := markStringS_l0 l a h h0 h1 l.length 0 (by omega)
  simpa [mks_zero] using this

/-! ### law_FnExactCut -/
theorem FnExactCut (l0 : List (ByteArray)) (g0 : G40 l0) (x1_0 : ByteArray) (x1_1 : ByteArray) (g1 : G79 (x1_0, x1_1)) : ∃ k, laws_FnExactCut.f k l0 x1_0 x1_1 = some true := by
  have hl : l0.length ≤ 8796093021952 := by have := g0.1; omega
  obtain ⟨g, hg⟩ : ∃ g, g = cut l0 x1_0 x1_1 := ⟨_, rfl⟩
  have h4 : g.length ≤ 4 := by rw [hg]; exact cut_len _ _ _
  have hs := spec_Cut_ev l0 hl x1_0 x1_1
  have hi := impl_Cut_ev l0 hl x1_0 x1_1
  rw [← hg] at hs hi
  have ht := toStringS_ev l0 hl
  have hq := eqPartS_self g (by omega)
  have hm := markPartS_ev g 1 (by omega) (by omega) (by omega)
  have hd := heldPartS_ev g.length 1 (by omega) (by omega) (by omega)
  refine Ev.rounds ?_
  unfold laws_FnExactCut.f
  obtain ⟨r, hr⟩ := szStringS_some l0 hl 1048576
  obtain ⟨r2, hr2⟩ := szRange_some x1_0 x1_1 r
  refine Ev.bind hr ?_
  by_cases c : r < 0
  · simp only [if_pos c]; exact Ev.now _
  simp only [if_neg c, hr2, Option.bind_some]
  by_cases c2 : r2 < 0
  · simp only [if_pos c2]; exact Ev.now _
  simp only [if_neg c2, laws_toRange.f, Option.bind_some]
  refine Ev.bind ht (Ev.bind hs (Ev.bind ht (Ev.bind hi (Ev.bind hq ?_))))
  simp only [if_true]
  refine Ev.bind ht (Ev.bind (eqStringS_self l0 hl) ?_)
  simp only [if_true]
  refine Ev.bind (markStringS_ev l0 1 hl (by omega) (by omega)) ?_
  simp only [if_neg (show ¬ ((1 : Int) + (l0.length : Int) < 0) by omega)]
  refine Ev.bind hq ?_
  simp only [Bool.not_true]
  refine Ev.step (f := fun k => _) (fun k => by simp only [laws_FnExactCut.j0]; rfl) ?_
  simp only [Bool.false_eq_true, if_false]
  refine Ev.bind hm (Ev.bind hd ?_)
  simp only [if_neg (show ¬ ((1 : Int) + 3 * (g.length : Int) < 0) by omega), if_true, laws_toRange.f, Option.bind_some]
  refine Ev.bind ht (Ev.bind hi (Ev.bind hq ?_))
  simp only [if_true]
  refine Ev.bind hd (Ev.one ?_)
  rw [if_neg (by omega), if_pos rfl]

end Go.Proofs.Ytnleeeccpepekaa.Pure
