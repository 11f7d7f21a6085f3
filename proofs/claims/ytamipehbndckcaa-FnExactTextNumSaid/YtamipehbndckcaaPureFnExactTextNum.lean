/- The pure statement of FnExactTextNum: what the printed functions of this law compute answers true, for every argument within the bounds that the statement names. -/
import Derived.Test.YtamipehbndckcaaPFnExactTextNumx2
import Derived.Test.YtamipehbndckcaaLib
namespace Go.Proofs.Ytamipehbndckcaa.Pure
open Go Go.RowKit Go.Proofs.Ytamipehbndckcaa.PFnExactTextNum Go.Proofs.YtamipehbndckcaaW.PrintWords Go.Proofs.YtamipehbndckcaaW.PrintLast Go.Proofs.YtamipehbndckcaaW.PrintMore Go.Proofs.Ytamipehbndckcaa.Lib
set_option linter.unusedVariables false
set_option linter.unusedSimpArgs false

/-! ### within -/
theorem within_eq (x lo hi : Int) : impl_within.f x lo hi = some (decide (lo ≤ x ∧ x ≤ hi)) := by
  unfold impl_within.f
  by_cases h : x ≥ lo
  · rw [if_pos h]; simp [h]
  · rw [if_neg h]; simp; omega

/-! ### isNum -/
theorem isNum_eq (n : Int) : impl_isNum.f n = some (decide (0 ≤ n ∧ n ≤ 1099511627775)) := by
  unfold impl_isNum.f; rw [within_eq]; rfl

/-! ### l01Num -/
theorem l01Num_eq (n : Int) : spec_l01Num.f n = some (decide (0 ≤ n ∧ n ≤ 1099511627775)) := by
  unfold spec_l01Num.f
  by_cases h : n ≥ 0
  · rw [if_pos h]; simp [h]
  · rw [if_neg h]; simp; omega

/-! ### numText -/
def numText (n : Int) : ByteArray := if 0 ≤ n ∧ n ≤ 1099511627775 then strOfNums (nt n.toNat) else ⟨#[]⟩
theorem impl_nt_l0 (n : Nat) : ∀ acc : ByteArray, n ≤ 1099511627775 → acc.size + n ≤ 4611686018427387904 →
    Ev (fun k => impl_NumText.l0 k (n : Int) acc) (strOfNums (nt n) ++ acc) := by
  induction n using Nat.strongRecOn with
  | _ n ih =>
    intro acc hn ha
    by_cases h : n < 10
    · refine Ev.step1 fun k => ?_
      simp only [impl_NumText.l0]
      rw [if_neg (by omega)]
      simp only [Option.bind_some]
      rw [digit_w (by omega) (by omega), if_pos (by rw [size_son]; simp; omega), nt_lt h]
    · refine Ev.step (f := fun k => impl_NumText.l0 k ((n / 10 : Nat) : Int) (strOfNums [48 + ((n % 10 : Nat) : Int)] ++ acc)) (fun k => ?_) ?_
      · simp only [impl_NumText.l0]
        rw [if_pos (by omega)]
        simp only [Option.bind_some]
        rw [show (10 : Int) = ((10 : Nat) : Int) from rfl, tdiv_nat, tmod_nat, digit_w (by omega) (by omega), wr (by omega) (by omega), if_pos (by rw [size_son]; simp; omega)]
      · have := ih (n / 10) (by omega) (strOfNums [48 + ((n % 10 : Nat) : Int)] ++ acc) (by omega) (by rw [ByteArray.size_append, size_son]; simp; omega)
        rw [nt_ge h, son_app, ByteArray.append_assoc]
        exact this
theorem impl_NumText_ev (n : Int) : Ev (fun k => impl_NumText.f k n) (numText n) := by
  unfold impl_NumText.f numText
  rw [isNum_eq]
  simp only [Option.bind_some, decide_eq_true_eq]
  by_cases h : 0 ≤ n ∧ n ≤ 1099511627775
  · simp only [if_pos h]
    have := impl_nt_l0 n.toNat (⟨#[]⟩ : ByteArray) (by omega) (by show 0 + _ ≤ _; omega)
    rw [Int.toNat_of_nonneg h.1, app_empty] at this
    exact this
  · simp only [if_neg h]
    exact Ev.now _
theorem spec_nt (n : Nat) : n ≤ 1099511627775 → Ev (fun k => spec_NumText.f k (n : Int)) (strOfNums (nt n)) := by
  induction n using Nat.strongRecOn with
  | _ n ih =>
    intro hn
    by_cases h : n < 10
    · refine Ev.step1 fun k => ?_
      simp only [spec_NumText.f]
      rw [l01Num_eq]
      simp only [Option.bind_some]
      rw [if_pos (decide_eq_true (by omega)), if_pos (by omega), digit_w (by omega) (by omega), nt_lt h]
    · refine Ev.step (f := fun k => (spec_NumText.f k ((n / 10 : Nat) : Int)).bind fun t => if t.size + (strOfNums [48 + ((n % 10 : Nat) : Int)]).size ≤ 9223372036854775807 then some (t ++ strOfNums [48 + ((n % 10 : Nat) : Int)]) else none) (fun k => ?_) ?_
      · simp only [spec_NumText.f]
        rw [l01Num_eq]
        simp only [Option.bind_some]
        rw [if_pos (decide_eq_true (by omega)), if_neg (by omega), show (10 : Int) = ((10 : Nat) : Int) from rfl, tdiv_nat, tmod_nat, digit_w (by omega) (by omega), wr (by omega) (by omega)]
      · refine Ev.bind (ih (n / 10) (by omega) (by omega)) (Ev.one ?_)
        have := nt_len (n / 10)
        rw [if_pos (by rw [size_son, size_son]; simp; omega), ← son_app, nt_ge h]
theorem spec_NumText_ev (n : Int) : Ev (fun k => spec_NumText.f k n) (numText n) := by
  unfold numText
  by_cases h : 0 ≤ n ∧ n ≤ 1099511627775
  · rw [if_pos h]
    have := spec_nt n.toNat (by omega)
    rw [Int.toNat_of_nonneg h.1] at this
    exact this
  · rw [if_neg h]
    refine Ev.step1 fun k => ?_
    simp only [spec_NumText.f]
    rw [l01Num_eq]
    simp only [Option.bind_some]
    rw [if_neg (by simpa using h)]

/-! ### textNum -/
/-- What a row of figures tells. -/
def pd : List Int → Int → Option Int
  | [], n => some n
  | b :: r, n => if 48 ≤ b ∧ b ≤ 57 then pd r (10 * n + (b - 48)) else none
def tnEnd (s : ByteArray) : Option Int → Int × Bool
  | some n => if numText n = s then (n, true) else (0, false)
  | none => (0, false)
def textNum (s : ByteArray) : Int × Bool := if 1 ≤ s.size ∧ s.size ≤ 13 then tnEnd s (pd (bytesOf s) 0) else (0, false)
theorem numText_empty {n : Int} (h : ¬ (0 ≤ n ∧ n ≤ 1099511627775)) : numText n = ⟨#[]⟩ := by unfold numText; rw [if_neg h]
theorem tnEnd_one (s : ByteArray) (n : Int) : (if (numText n).toList = s.toList then some (n, true) else some ((0 : Int), false)) = some (tnEnd s (some n)) := by
  unfold tnEnd
  by_cases h : numText n = s
  · rw [if_pos (tl_inj.2 h)]; simp only [if_pos h]
  · rw [if_neg (fun e => h (tl_inj.1 e))]; simp only [if_neg h]
theorem pow10 {n i : Nat} (h : n < 10 ^ i) (hi : i ≤ 13) : n < 10000000000000 := Nat.lt_of_lt_of_le h (Nat.pow_le_pow_right (j := 13) (by omega) hi)
theorem spec_tn (s : ByteArray) (hs : s.size ≤ 13) (h1 : 1 ≤ s.size) (d : Nat) : ∀ (i n : Nat), i + d = s.size → n < 10 ^ i →
    Ev (fun k => spec_TextNum.l0 k s (n : Int) (i : Int)) (tnEnd s (pd ((bytesOf s).drop i) n)) := by
  induction d with
  | zero =>
    intro i n hi hn
    rw [List.drop_of_length_le (by rw [len_bytesOf]; omega)]
    by_cases hm : 0 ≤ (n : Int) ∧ (n : Int) ≤ 1099511627775
    · refine Ev.step (f := fun k => (spec_NumText.f k (n : Int)).bind fun t => if t.toList = s.toList then some ((n : Int), true) else some (0, false)) (fun k => ?_) ?_
      · simp only [spec_TextNum.l0]
        rw [if_neg (by omega), l01Num_eq]
        simp only [Option.bind_some]
        rw [if_pos (decide_eq_true hm)]
      · exact Ev.bind (spec_NumText_ev n) (Ev.one (tnEnd_one s n))
    · refine Ev.step1 fun k => ?_
      simp only [spec_TextNum.l0]
      rw [if_neg (by omega), l01Num_eq]
      simp only [Option.bind_some]
      rw [if_neg (by simpa using hm)]
      show _ = some (tnEnd s (some (n : Int)))
      unfold tnEnd
      show some (0, false) = some (if numText (n : Int) = s then ((n : Int), true) else (0, false))
      rw [if_neg]
      intro e
      rw [numText_empty hm] at e
      rw [← e] at h1
      exact absurd h1 (by decide)
  | succ d ih =>
    intro i n hi hn
    have hb := bt_range s i
    have hp := pow10 hn (by omega)
    rw [drop_bytes (by omega)]
    unfold pd
    by_cases hd : 48 ≤ bt s i ∧ bt s i ≤ 57
    · rw [if_pos hd]
      obtain ⟨c, hc⟩ : ∃ c : Nat, bt s i - 48 = (c : Int) := ⟨(bt s i - 48).toNat, by omega⟩
      refine Ev.step (f := fun k => spec_TextNum.l0 k s ((10 * n + c : Nat) : Int) ((i + 1 : Nat) : Int)) (fun k => ?_) ?_
      · simp only [spec_TextNum.l0]
        rw [if_pos (by omega), if_pos (by omega), if_neg (by omega), if_neg (by omega), hc, wr (n := (n : Int) * 10) (by omega) (by omega), wr (n := (n : Int) * 10 + _) (by omega) (by omega), wrS (by omega)]
        congr 1
        omega
      · have := ih (i + 1) (10 * n + c) (by omega) (by rw [Nat.pow_succ]; omega)
        rw [hc]
        simpa using this
    · rw [if_neg hd]
      refine Ev.step1 fun k => ?_
      simp only [spec_TextNum.l0]
      rw [if_pos (by omega), if_pos (by omega)]
      by_cases h4 : bt s i < 48
      · rw [if_pos h4]; rfl
      · rw [if_neg h4, if_pos (by omega)]; rfl
theorem impl_tn (s : ByteArray) (hs : s.size ≤ 13) (h1 : 1 ≤ s.size) (d : Nat) : ∀ (i n : Nat), i + d = s.size → n < 10 ^ i →
    Ev (fun k => impl_TextNum.l0 k s (n : Int) (i : Int)) (tnEnd s (pd ((bytesOf s).drop i) n)) := by
  induction d with
  | zero =>
    intro i n hi hn
    rw [List.drop_of_length_le (by rw [len_bytesOf]; omega)]
    refine Ev.step (f := fun k => (impl_NumText.f k (n : Int)).bind fun t => if t.toList = s.toList then some ((n : Int), true) else some (0, false)) (fun k => ?_) ?_
    · simp only [impl_TextNum.l0]
      rw [if_neg (by omega)]
    · exact Ev.bind (impl_NumText_ev n) (Ev.one (tnEnd_one s n))
  | succ d ih =>
    intro i n hi hn
    have hb := bt_range s i
    have hp := pow10 hn (by omega)
    rw [drop_bytes (by omega)]
    unfold pd
    by_cases hd : 48 ≤ bt s i ∧ bt s i ≤ 57
    · rw [if_pos hd]
      obtain ⟨c, hc⟩ : ∃ c : Nat, bt s i - 48 = (c : Int) := ⟨(bt s i - 48).toNat, by omega⟩
      refine Ev.step (f := fun k => impl_TextNum.l0 k s ((10 * n + c : Nat) : Int) ((i + 1 : Nat) : Int)) (fun k => ?_) ?_
      · simp only [impl_TextNum.l0]
        rw [if_pos (by omega), if_pos (by omega), if_neg (by omega), if_neg (by omega), hc, wr (n := 10 * (n : Int)) (by omega) (by omega), wr (n := 10 * (n : Int) + _) (by omega) (by omega), wrS (by omega)]
        congr 1
        omega
      · have := ih (i + 1) (10 * n + c) (by omega) (by rw [Nat.pow_succ]; omega)
        rw [hc]
        simpa using this
    · rw [if_neg hd]
      refine Ev.step1 fun k => ?_
      simp only [impl_TextNum.l0]
      rw [if_pos (by omega), if_pos (by omega)]
      by_cases h4 : bt s i < 48
      · rw [if_pos h4]; rfl
      · rw [if_neg h4, if_pos (by omega)]; rfl
theorem spec_TextNum_ev (s : ByteArray) : Ev (fun k => spec_TextNum.f k s) (textNum s) := by
  unfold spec_TextNum.f textNum
  by_cases h0 : (s.size : Int) < 1
  · simp only [if_pos h0]
    rw [if_neg (by omega)]
    exact Ev.step1 fun k => by simp only [spec_TextNum.j0]; rfl
  · simp only [if_neg h0]
    by_cases h2 : (s.size : Int) > 13
    · rw [if_neg (by omega)]
      exact Ev.step1 fun k => by simp only [spec_TextNum.j0]; rw [if_pos (decide_eq_true h2)]
    · rw [if_pos (by omega)]
      refine Ev.step (f := fun k => spec_TextNum.l0 k s ((0 : Nat) : Int) ((0 : Nat) : Int)) (fun k => ?_) (spec_tn s (by omega) (by omega) s.size 0 0 (by omega) (by decide))
      simp only [spec_TextNum.j0]; rw [if_neg (by simpa using h2)]; rfl
theorem impl_TextNum_ev (s : ByteArray) : Ev (fun k => impl_TextNum.f k s) (textNum s) := by
  unfold impl_TextNum.f textNum
  rw [within_eq]
  simp only [Option.bind_some]
  by_cases h : 1 ≤ s.size ∧ s.size ≤ 13
  · rw [if_pos h]
    simp only [if_pos (decide_eq_true (show (1 : Int) ≤ s.size ∧ (s.size : Int) ≤ 13 by omega))]
    exact impl_tn s (by omega) (by omega) s.size 0 0 (by omega) (by decide)
  · rw [if_neg h]
    simp only [if_neg (show ¬ (decide ((1 : Int) ≤ s.size ∧ (s.size : Int) ≤ 13) = true) by simp; omega)]
    exact Ev.now _

/-! ### law_FnExactTextNum -/
theorem FnExactTextNum : laws_FnExactTextNum.Pure := by
  intro a0 _
  refine Ev.rounds ?_
  unfold laws_FnExactTextNum.f
  split
  · exact Ev.now _
  · refine Ev.bind (spec_TextNum_ev a0) (Ev.bind (impl_TextNum_ev a0) (Ev.one ?_))
    rw [if_pos rfl, if_neg (ne_self _)]

end Go.Proofs.Ytamipehbndckcaa.Pure
