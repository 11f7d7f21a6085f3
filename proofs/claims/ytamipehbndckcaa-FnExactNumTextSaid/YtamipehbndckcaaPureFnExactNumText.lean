/- The pure statement of FnExactNumText: what the printed functions of this law compute answers true, for every argument within the bounds that the statement names. -/
import Derived.Test.YtamipehbndckcaaPFnExactNumTextx1
import Derived.Test.YtamipehbndckcaaLib
namespace Go.Proofs.Ytamipehbndckcaa.Pure
open Go Go.RowKit Go.Proofs.Ytamipehbndckcaa.PFnExactNumText Go.Proofs.YtamipehbndckcaaW.PrintWords Go.Proofs.YtamipehbndckcaaW.PrintLast Go.Proofs.YtamipehbndckcaaW.PrintMore Go.Proofs.Ytamipehbndckcaa.Lib
set_option linter.unusedVariables false
set_option linter.unusedSimpArgs false

/-! ### within -/
theorem within_eq (x lo hi : Int) : impl_within.f x lo hi = some (decide (lo ≤ x ∧ x ≤ hi)) := by
  unfold impl_within.f
  by_cases h : x ≥ lo
  · rw [if_pos h]; simp [h]
  · rw [if_neg h]; simp; omega

/-! ### isNum -/
theorem isNum_eq (n : Int) : impl_isNum.f n = some (decide (0 ≤ n ∧ n ≤ 1099511627775)) := by
  unfold impl_isNum.f; rw [within_eq]; rfl

/-! ### l01Num -/
theorem l01Num_eq (n : Int) : spec_l01Num.f n = some (decide (0 ≤ n ∧ n ≤ 1099511627775)) := by
  unfold spec_l01Num.f
  by_cases h : n ≥ 0
  · rw [if_pos h]; simp [h]
  · rw [if_neg h]; simp; omega

/-! ### numText -/
def numText (n : Int) : ByteArray := if 0 ≤ n ∧ n ≤ 1099511627775 then strOfNums (nt n.toNat) else ⟨#[]⟩
theorem impl_nt_l0 (n : Nat) : ∀ acc : ByteArray, n ≤ 1099511627775 → acc.size + n ≤ 4611686018427387904 →
    Ev (fun k => impl_NumText.l0 k (n : Int) acc) (strOfNums (nt n) ++ acc) := by
  induction n using Nat.strongRecOn with
  | _ n ih =>
    intro acc hn ha
    by_cases h : n < 10
    · refine Ev.step1 fun k => ?_
      simp only [impl_NumText.l0]
      rw [if_neg (by omega)]
      simp only [Option.bind_some]
      rw [digit_w (by omega) (by omega), if_pos (by rw [size_son]; simp; omega), nt_lt h]
    · refine Ev.step (f := fun k => impl_NumText.l0 k ((n / 10 : Nat) : Int) (strOfNums [48 + ((n % 10 : Nat) : Int)] ++ acc)) (fun k => ?_) ?_
      · simp only [impl_NumText.l0]
        rw [if_pos (by omega)]
        simp only [Option.bind_some]
        rw [show (10 : Int) = ((10 : Nat) : Int) from rfl, tdiv_nat, tmod_nat, digit_w (by omega) (by omega), wr (by omega) (by omega), if_pos (by rw [size_son]; simp; omega)]
      · have := ih (n / 10) (by omega) (strOfNums [48 + ((n % 10 : Nat) : Int)] ++ acc) (by omega) (by rw [ByteArray.size_append, size_son]; simp; omega)
        rw [nt_ge h, son_app, ByteArray.append_assoc]
        exact this
theorem impl_NumText_ev (n : Int) : Ev (fun k => impl_NumText.f k n) (numText n) := by
  unfold impl_NumText.f numText
  rw [isNum_eq]
  simp only [Option.bind_some, decide_eq_true_eq]
  by_cases h : 0 ≤ n ∧ n ≤ 1099511627775
  · simp only [if_pos h]
    have := impl_nt_l0 n.toNat (⟨#[]⟩ : ByteArray) (by omega) (by show 0 + _ ≤ _; omega)
    rw [Int.toNat_of_nonneg h.1, app_empty] at this
    exact this
  · simp only [if_neg h]
    exact Ev.now _
theorem spec_nt (n : Nat) : n ≤ 1099511627775 → Ev (fun k => spec_NumText.f k (n : Int)) (strOfNums (nt n)) := by
  induction n using Nat.strongRecOn with
  | _ n ih =>
    intro hn
    by_cases h : n < 10
    · refine Ev.step1 fun k => ?_
      simp only [spec_NumText.f]
      rw [l01Num_eq]
      simp only [Option.bind_some]
      rw [if_pos (decide_eq_true (by omega)), if_pos (by omega), digit_w (by omega) (by omega), nt_lt h]
    · refine Ev.step (f := fun k => (spec_NumText.f k ((n / 10 : Nat) : Int)).bind fun t => if t.size + (strOfNums [48 + ((n % 10 : Nat) : Int)]).size ≤ 9223372036854775807 then some (t ++ strOfNums [48 + ((n % 10 : Nat) : Int)]) else none) (fun k => ?_) ?_
      · simp only [spec_NumText.f]
        rw [l01Num_eq]
        simp only [Option.bind_some]
        rw [if_pos (decide_eq_true (by omega)), if_neg (by omega), show (10 : Int) = ((10 : Nat) : Int) from rfl, tdiv_nat, tmod_nat, digit_w (by omega) (by omega), wr (by omega) (by omega)]
      · refine Ev.bind (ih (n / 10) (by omega) (by omega)) (Ev.one ?_)
        have := nt_len (n / 10)
        rw [if_pos (by rw [size_son, size_son]; simp; omega), ← son_app, nt_ge h]
theorem spec_NumText_ev (n : Int) : Ev (fun k => spec_NumText.f k n) (numText n) := by
  unfold numText
  by_cases h : 0 ≤ n ∧ n ≤ 1099511627775
  · rw [if_pos h]
    have := spec_nt n.toNat (by omega)
    rw [Int.toNat_of_nonneg h.1] at this
    exact this
  · rw [if_neg h]
    refine Ev.step1 fun k => ?_
    simp only [spec_NumText.f]
    rw [l01Num_eq]
    simp only [Option.bind_some]
    rw [if_neg (by simpa using h)]

/-! ### law_FnExactNumText -/
theorem FnExactNumText : laws_FnExactNumText.Pure := by
  intro a0 _
  refine Ev.rounds ?_
  unfold laws_FnExactNumText.f
  refine Ev.bind (spec_NumText_ev a0) (Ev.bind (impl_NumText_ev a0) (Ev.one ?_))
  rw [if_pos rfl]

end Go.Proofs.Ytamipehbndckcaa.Pure
