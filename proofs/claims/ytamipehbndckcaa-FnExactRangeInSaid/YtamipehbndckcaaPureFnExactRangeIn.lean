/- The pure statement of FnExactRangeIn: what the printed functions of this law compute answers true, for every argument within the bounds that the statement names. -/
import Derived.Test.YtamipehbndckcaaPFnExactRangeInx2
import Derived.Test.YtamipehbndckcaaLib
import Derived.Test.YtamipehbndckcaaLibOrd
import Derived.Test.YtamipehbndckcaaLibOpen
namespace Go.Proofs.Ytamipehbndckcaa.Pure
open Go Go.RowKit Go.Proofs.Ytamipehbndckcaa.PFnExactRangeIn Go.Proofs.YtamipehbndckcaaW.PrintWords Go.Proofs.YtamipehbndckcaaW.PrintLast Go.Proofs.YtamipehbndckcaaW.PrintMore Go.Proofs.Ytamipehbndckcaa.Lib
set_option linter.unusedVariables false
set_option linter.unusedSimpArgs false

def G9 (s : ByteArray) : Prop := s.size ≤ 140737488351232
def G36 (x : (ByteArray) × (ByteArray)) : Prop := G9 x.1 ∧ G9 x.2

/-! ### rangeOk -/
def ltB (a b : ByteArray) : Bool := Op.bytesLess a.toList b.toList
def rangeOk (lo hi : ByteArray) : Prop := lo.size ≤ 17 ∧ hi.size ≤ 17 ∧ (hi.size = 0 ∨ ltB lo hi = true)
instance (lo hi : ByteArray) : Decidable (rangeOk lo hi) := inferInstanceAs (Decidable (_ ∧ _ ∧ _))
theorem spec_RangeOk_eq (lo hi : ByteArray) : spec_RangeOk.f lo hi = some (decide (rangeOk lo hi)) := by
  unfold spec_RangeOk.f
  by_cases h1 : (lo.size : Int) > 17
  · rw [if_pos h1]; exact sdf (fun h => by have := h.1; omega)
  · rw [if_neg h1]
    by_cases h2 : (hi.size : Int) > 17
    · rw [if_pos h2]; exact sdf (fun h => by have := h.2.1; omega)
    · rw [if_neg h2]
      by_cases h3 : hi.toList = []
      · rw [if_pos h3]; exact sdt ⟨by omega, by omega, .inl (tl_nil.1 h3)⟩
      · rw [if_neg h3]
        show some (ltB lo hi) = _
        congr 1
        cases e : ltB lo hi with
        | true => exact (decide_eq_true ⟨by omega, by omega, .inr e⟩).symm
        | false => exact (decide_eq_false (fun h => by rcases h.2.2 with h | h; exact h3 (tl_nil.2 h); rw [e] at h; cases h)).symm
theorem impl_RangeOk_eq (lo hi : ByteArray) : impl_RangeOk.f lo hi = some (decide (rangeOk lo hi)) := by
  rw [← spec_RangeOk_eq]
  unfold impl_RangeOk.f spec_RangeOk.f
  by_cases h1 : (lo.size : Int) > 17
  · rw [if_pos h1, if_neg (by omega)]
  · rw [if_neg h1, if_pos (by omega)]
    by_cases h2 : (hi.size : Int) > 17
    · rw [if_pos h2, if_neg (by omega)]
    · rw [if_neg h2, if_pos (by omega)]

/-! ### szRange -/
theorem szRange_some (a b : ByteArray) (n : Int) : ∃ r, laws_szRange.f a b n = some r := by
  unfold laws_szRange.f
  split
  · exact ⟨_, rfl⟩
  · split <;> exact ⟨_, rfl⟩

/-! ### law_FnExactRangeIn -/
theorem rangeIn_same (a b c d : ByteArray) : ∃ r, spec_RangeIn.f a b c d = some r ∧ impl_RangeIn.f a b c d = some r := by
  have e : spec_RangeIn.f a b c d = impl_RangeIn.f a b c d := by
    unfold spec_RangeIn.f impl_RangeIn.f
    rw [spec_RangeOk_eq, spec_RangeOk_eq, impl_RangeOk_eq, impl_RangeOk_eq]
  refine ⟨(spec_RangeIn.f a b c d).getD false, ?_⟩
  rw [← e, and_self]
  unfold spec_RangeIn.f
  rw [spec_RangeOk_eq, spec_RangeOk_eq]
  simp only [Option.bind_some]
  repeat (split <;> try rfl)
theorem FnExactRangeIn (x0_0 : ByteArray) (x0_1 : ByteArray) (g0 : G36 (x0_0, x0_1)) (x1_0 : ByteArray) (x1_1 : ByteArray) (g1 : G36 (x1_0, x1_1)) : laws_FnExactRangeIn.f x0_0 x0_1 x1_0 x1_1 = some true := by
  unfold laws_FnExactRangeIn.f laws_toRange.f
  obtain ⟨r, hr⟩ := szRange_some x0_0 x0_1 1048576
  obtain ⟨r2, hr2⟩ := szRange_some x1_0 x1_1 r
  obtain ⟨b, h1, h2⟩ := rangeIn_same x0_0 x0_1 x1_0 x1_1
  rw [hr]
  simp only [Option.bind_some]
  rw [hr2]
  simp only [Option.bind_some]
  rw [h1, h2]
  simp only [Option.bind_some]
  rw [if_neg (ne_self _)]
  split
  · rfl
  · split <;> rfl

end Go.Proofs.Ytamipehbndckcaa.Pure
