/- The pure statement of FnExactRangeBoth: what the printed functions of this law compute answers true, for every argument within the bounds that the statement names. -/
import Derived.Test.YtcdnfonholkflaaPFnExactRangeBothx3
import Derived.Test.YtcdnfonholkflaaLib
import Derived.Test.YtcdnfonholkflaaLibOrd
import Derived.Test.YtcdnfonholkflaaLibOpen
import Derived.Test.YtcdnfonholkflaaLibMax
namespace Go.Proofs.Ytcdnfonholkflaa.Pure
open Go Go.RowKit Go.Proofs.Ytcdnfonholkflaa.PFnExactRangeBoth Go.Proofs.YtcdnfonholkflaaW.PrintWords Go.Proofs.YtcdnfonholkflaaW.PrintLast Go.Proofs.YtcdnfonholkflaaW.PrintMore Go.Proofs.Ytcdnfonholkflaa.Lib
set_option linter.unusedVariables false
set_option linter.unusedSimpArgs false

def G9 (s : ByteArray) : Prop := s.size ≤ 140737488351232
def G23 (x : (ByteArray) × (ByteArray)) : Prop := G9 x.1 ∧ G9 x.2

/-! ### rangeOk -/
def ltB (a b : ByteArray) : Bool := Op.bytesLess a.toList b.toList
def rangeOk (lo hi : ByteArray) : Prop := lo.size ≤ 17 ∧ hi.size ≤ 17 ∧ (hi.size = 0 ∨ ltB lo hi = true)
instance (lo hi : ByteArray) : Decidable (rangeOk lo hi) := inferInstanceAs (Decidable (_ ∧ _ ∧ _))
theorem spec_RangeOk_eq (lo hi : ByteArray) : spec_RangeOk.f lo hi = some (decide (rangeOk lo hi)) := by
  unfold spec_RangeOk.f
  by_cases h1 : (lo.size : Int) > 17
  · rw [if_pos h1]; exact sdf (fun h => by have := h.1; omega)
  · rw [if_neg h1]
    by_cases h2 : (hi.size : Int) > 17
    · rw [if_pos h2]; exact sdf (fun h => by have := h.2.1; omega)
    · rw [if_neg h2]
      by_cases h3 : hi.toList = []
      · rw [if_pos h3]; exact sdt ⟨by omega, by omega, .inl (tl_nil.1 h3)⟩
      · rw [if_neg h3]
        show some (ltB lo hi) = _
        congr 1
        cases e : ltB lo hi with
        | true => exact (decide_eq_true ⟨by omega, by omega, .inr e⟩).symm
        | false => exact (decide_eq_false (fun h => by rcases h.2.2 with h | h; exact h3 (tl_nil.2 h); rw [e] at h; cases h)).symm

/-! ### implRangeOk -/
theorem impl_RangeOk_eq (lo hi : ByteArray) : impl_RangeOk.f lo hi = some (decide (rangeOk lo hi)) := by
  rw [← spec_RangeOk_eq]
  unfold impl_RangeOk.f spec_RangeOk.f
  by_cases h1 : (lo.size : Int) > 17
  · rw [if_pos h1, if_neg (by omega)]
  · rw [if_neg h1, if_pos (by omega)]
    by_cases h2 : (hi.size : Int) > 17
    · rw [if_pos h2, if_neg (by omega)]
    · rw [if_neg h2, if_pos (by omega)]

/-! ### rangeBoth -/
def noR : ByteArray × ByteArray × Bool := ((⟨#[]⟩ : ByteArray), (⟨#[]⟩ : ByteArray), false)
def bothFin (lo hi : ByteArray) : ByteArray × ByteArray × Bool := if rangeOk lo hi then (lo, hi, true) else noR
def bothHi (b d : ByteArray) : ByteArray := if b.toList = [] then d else if d.toList = [] then b else if Op.bytesLess d.toList b.toList = true then d else b
def rangeBoth (a b c d : ByteArray) : ByteArray × ByteArray × Bool := if rangeOk a b ∧ rangeOk c d then bothFin (Ord.smax a c) (bothHi b d) else noR
theorem bothFin_t {lo hi : ByteArray} (h : rangeOk lo hi) : bothFin lo hi = (lo, hi, true) := by unfold bothFin; rw [if_pos h]
theorem bothFin_f {lo hi : ByteArray} (h : ¬ rangeOk lo hi) : bothFin lo hi = noR := by unfold bothFin; rw [if_neg h]
theorem spec_both_end (lo hi : ByteArray) : ((spec_RangeOk.f lo hi).bind fun t => (if t = true then (some (lo, hi, true)) else (some ((⟨#[]⟩ : ByteArray), (⟨#[]⟩ : ByteArray), false)))) = some (bothFin lo hi) := by
  rw [spec_RangeOk_eq]
  simp only [Option.bind_some]
  by_cases h : rangeOk lo hi
  · rw [if_pos (decide_eq_true h), bothFin_t h]
  · rw [if_neg (fun e => h (of_decide_eq_true e)), bothFin_f h]; rfl
theorem impl_both_end (lo hi : ByteArray) : ((impl_RangeOk.f lo hi).bind fun t => (if t = true then (some (lo, hi, true)) else (some ((⟨#[]⟩ : ByteArray), (⟨#[]⟩ : ByteArray), false)))) = some (bothFin lo hi) := by
  rw [impl_RangeOk_eq, ← spec_RangeOk_eq]; exact spec_both_end lo hi
theorem spec_both_j2 (t : Bool) (a b c d : ByteArray) : Ev (fun k => spec_RangeBoth.j2 k t a b c d) (bothFin a (if t = true then d else b)) := by
  refine Ev.step1 fun k => ?_
  simp only [spec_RangeBoth.j2]
  rw [spec_both_end, spec_both_end]
  cases t <;> rfl
theorem spec_both_j1 (a b c d : ByteArray) : Ev (fun k => spec_RangeBoth.j1 k a b c d) (bothFin a (bothHi b d)) := by
  unfold bothHi
  by_cases h1 : b.toList = []
  · rw [if_pos h1]
    exact Ev.step (fun k => by simp only [spec_RangeBoth.j1]; rw [if_pos h1]) (spec_both_j2 true a b c d)
  · rw [if_neg h1]
    by_cases h2 : d.toList = []
    · rw [if_pos h2]
      exact Ev.step (fun k => by simp only [spec_RangeBoth.j1]; rw [if_neg h1, if_pos h2]) (spec_both_j2 false a b c d)
    · rw [if_neg h2]
      exact Ev.step (fun k => by simp only [spec_RangeBoth.j1]; rw [if_neg h1, if_neg h2]) (spec_both_j2 _ a b c d)
theorem spec_RangeBoth_ev (a b c d : ByteArray) : Ev (fun k => spec_RangeBoth.f k a b c d) (rangeBoth a b c d) := by
  unfold spec_RangeBoth.f rangeBoth
  rw [spec_RangeOk_eq, spec_RangeOk_eq]
  simp only [Option.bind_some]
  have no : Ev (fun k => spec_RangeBoth.j0 k true a b c d) noR := Ev.step1 fun k => by simp only [spec_RangeBoth.j0]; rfl
  by_cases h1 : rangeOk a b
  · simp only [if_pos (decide_eq_true h1)]
    by_cases h2 : rangeOk c d
    · rw [if_pos ⟨h1, h2⟩, decide_eq_true h2]
      unfold Ord.smax
      by_cases h3 : Op.bytesLess a.toList c.toList = true
      · rw [if_pos h3]
        exact Ev.step (fun k => by simp only [spec_RangeBoth.j0, Bool.not_true, Bool.false_eq_true, if_false]; rw [if_pos h3]) (spec_both_j1 c b c d)
      · rw [if_neg h3]
        exact Ev.step (fun k => by simp only [spec_RangeBoth.j0, Bool.not_true, Bool.false_eq_true, if_false]; rw [if_neg h3]) (spec_both_j1 a b c d)
    · rw [if_neg (fun f => h2 f.2), decide_eq_false h2]
      exact no
  · simp only [if_neg (show ¬ (decide (rangeOk a b) = true) from fun e => h1 (of_decide_eq_true e))]
    rw [if_neg (fun f => h1 f.1)]
    exact no
theorem impl_both_j1 (t : Bool) (m a b d : ByteArray) : Ev (fun k => impl_RangeBoth.j1 k t m d a b) (bothFin a (if t = true then d else b)) := by
  refine Ev.step1 fun k => ?_
  simp only [impl_RangeBoth.j1]
  rw [impl_both_end, impl_both_end]
  cases t <;> rfl
theorem impl_RangeBoth_ev (a b c d : ByteArray) : Ev (fun k => impl_RangeBoth.f k a b c d) (rangeBoth a b c d) := by
  unfold impl_RangeBoth.f rangeBoth
  rw [impl_RangeOk_eq, impl_RangeOk_eq]
  simp only [Option.bind_some]
  have no : Ev (fun k => impl_RangeBoth.j0 k true a b c d) noR := Ev.step1 fun k => by simp only [impl_RangeBoth.j0]; rfl
  by_cases h1 : rangeOk a b
  · simp only [if_pos (decide_eq_true h1)]
    by_cases h2 : rangeOk c d
    · rw [if_pos ⟨h1, h2⟩, decide_eq_true h2]
      unfold bothHi
      by_cases h3 : b.toList = []
      · rw [if_pos h3]
        exact Ev.step (fun k => by simp only [impl_RangeBoth.j0, Bool.not_true, Bool.false_eq_true, if_false]; rw [if_pos h3]) (impl_both_j1 true c _ b d)
      · rw [if_neg h3]
        by_cases h4 : d.toList = []
        · rw [if_pos h4]
          exact Ev.step (fun k => by simp only [impl_RangeBoth.j0, Bool.not_true, Bool.false_eq_true, if_false]; rw [if_neg h3, if_pos h4]) (impl_both_j1 false c _ b d)
        · rw [if_neg h4]
          exact Ev.step (fun k => by simp only [impl_RangeBoth.j0, Bool.not_true, Bool.false_eq_true, if_false]; rw [if_neg h3, if_neg h4]) (impl_both_j1 _ c _ b d)
    · rw [if_neg (fun f => h2 f.2), decide_eq_false h2]
      exact no
  · simp only [if_neg (show ¬ (decide (rangeOk a b) = true) from fun e => h1 (of_decide_eq_true e))]
    rw [if_neg (fun f => h1 f.1)]
    exact no

/-! ### szRange -/
theorem szRange_some (a b : ByteArray) (n : Int) : ∃ r, laws_szRange.f a b n = some r := by
  unfold laws_szRange.f
  split
  · exact ⟨_, rfl⟩
  · split <;> exact ⟨_, rfl⟩

/-! ### eqRange -/
theorem eqRange_self (a b : ByteArray) : laws_eqRange.f a b a b = some true := by
  unfold laws_eqRange.f; rw [if_pos rfl, if_pos rfl]

/-! ### law_FnExactRangeBoth -/
theorem FnExactRangeBoth (x0_0 : ByteArray) (x0_1 : ByteArray) (g0 : G23 (x0_0, x0_1)) (x1_0 : ByteArray) (x1_1 : ByteArray) (g1 : G23 (x1_0, x1_1)) : ∃ k, laws_FnExactRangeBoth.f k x0_0 x0_1 x1_0 x1_1 = some true := by
  refine Ev.rounds ?_
  unfold laws_FnExactRangeBoth.f laws_toRange.f
  obtain ⟨r, hr⟩ := szRange_some x0_0 x0_1 1048576
  obtain ⟨r2, hr2⟩ := szRange_some x1_0 x1_1 r
  rw [hr]
  simp only [Option.bind_some]
  by_cases c : r < 0
  · simp only [if_pos c]; exact Ev.now _
  simp only [if_neg c]
  rw [hr2]
  simp only [Option.bind_some]
  by_cases c2 : r2 < 0
  · simp only [if_pos c2]; exact Ev.now _
  simp only [if_neg c2]
  refine Ev.bind (spec_RangeBoth_ev _ _ _ _) (Ev.bind (impl_RangeBoth_ev _ _ _ _) ?_)
  rw [eqRange_self]
  simp only [Option.bind_some, if_true, if_neg (ne_self _)]
  exact Ev.now _

end Go.Proofs.Ytcdnfonholkflaa.Pure
