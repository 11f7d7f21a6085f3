/- The pure statement of FnExactQuote: what the printed functions of this law compute answers true, for every argument within the bounds that the statement names. -/
import Derived.Test.YtamipehbndckcaaPFnExactQuotex2
import Derived.Test.YtamipehbndckcaaLib
namespace Go.Proofs.Ytamipehbndckcaa.Pure
open Go Go.RowKit Go.Proofs.Ytamipehbndckcaa.PFnExactQuote Go.Proofs.YtamipehbndckcaaW.PrintWords Go.Proofs.YtamipehbndckcaaW.PrintLast Go.Proofs.YtamipehbndckcaaW.PrintMore Go.Proofs.Ytamipehbndckcaa.Lib
set_option linter.unusedVariables false
set_option linter.unusedSimpArgs false

/-! ### within -/
theorem within_eq (x lo hi : Int) : impl_within.f x lo hi = some (decide (lo ≤ x ∧ x ≤ hi)) := by
  unfold impl_within.f
  by_cases h : x ≥ lo
  · rw [if_pos h]; simp [h]
  · rw [if_neg h]; simp; omega

/-! ### quote -/
theorem l01Digit_eq {d : Int} (h : 0 ≤ d) (h2 : d < 16) : spec_l01Digit.f d = some (hex d) := by
  unfold spec_l01Digit.f hex
  by_cases c : d < 10
  · rw [if_pos c, if_pos c, wr (by omega) (by omega)]; congr 1; omega
  · rw [if_neg c, if_neg c, wr (n := 65 + d) (by omega) (by omega), wr (by omega) (by omega)]; congr 1; omega
theorem spec_q (s : ByteArray) (hs : s.size ≤ 1000000) (d : Nat) : ∀ (i : Nat) (acc : List Int), i + d = s.size → acc.length + 3 * d ≤ 4000000 →
    Ev (fun k => spec_Quote.l0 k s acc i) (strOfNums (acc ++ qs ((bytesOf s).drop i) ++ [34])) := by
  induction d with
  | zero =>
    intro i acc hi ha
    refine Ev.step1 fun k => ?_
    simp only [spec_Quote.l0]
    rw [if_neg (by omega), if_pos (by omega), List.drop_of_length_le (by rw [len_bytesOf]; omega), qs_nil, List.append_nil]
  | succ d ih =>
    intro i acc hi ha
    have hr := bt_range s i
    rw [drop_bytes (by omega), qs_cons]
    by_cases hp : 33 ≤ bt s i ∧ bt s i ≤ 126 ∧ bt s i ≠ 34 ∧ bt s i ≠ 37
    · refine Ev.step (f := fun k => spec_Quote.j1 k s acc i (bt s i) true) (fun k => ?_) (Ev.step (f := fun k => spec_Quote.l0 k s (acc ++ [bt s i]) ((i + 1 : Nat) : Int)) (fun k => ?_) ?_)
      · simp only [spec_Quote.l0]
        rw [if_pos (by omega), if_pos (by omega), if_pos (by omega), if_pos (by omega), if_neg (by omega), show (bt s i != 37) = true from bne_iff_ne.2 hp.2.2.2]
      · simp only [spec_Quote.j1]
        rw [if_pos trivial, if_pos (by omega), wrS (by omega)]
      · have := ih (i + 1) (acc ++ [bt s i]) (by omega) (by simp; omega)
        rw [show q1 (bt s i) = [bt s i] by unfold q1 plainB; rw [if_pos (decide_eq_true hp)]]
        simpa using this
    · refine Ev.step (f := fun k => spec_Quote.j1 k s acc i (bt s i) false) (fun k => ?_) (Ev.step (f := fun k => spec_Quote.l0 k s (acc ++ [37, hex (bt s i / 16), hex (bt s i % 16)]) ((i + 1 : Nat) : Int)) (fun k => ?_) ?_)
      · simp only [spec_Quote.l0]
        rw [if_pos (by omega), if_pos (by omega)]
        by_cases h1 : bt s i ≥ 33
        · rw [if_pos h1]
          by_cases h2 : bt s i ≤ 126
          · rw [if_pos h2]
            by_cases h3 : bt s i = 34
            · rw [if_pos h3]
            · rw [if_neg h3, show (bt s i != 37) = false by rw [bne_eq_false_iff_eq]; omega]
          · rw [if_neg h2]
        · rw [if_neg h1]
      · simp only [spec_Quote.j1]
        rw [if_neg (by decide), wr (n := bt s i) (by omega) (by omega), tdiv_pos (by omega), tmod_pos (by omega), wr (n := bt s i / 16) (by omega) (by omega), l01Digit_eq (by omega) (by omega), l01Digit_eq (by omega) (by omega)]
        simp only [Option.bind_some]
        rw [if_pos (by simp; omega), wrS (by omega)]
      · have := ih (i + 1) (acc ++ [37, hex (bt s i / 16), hex (bt s i % 16)]) (by omega) (by simp; omega)
        rw [show q1 (bt s i) = [37, hex (bt s i / 16), hex (bt s i % 16)] by unfold q1 plainB; rw [if_neg (by simpa using hp)]]
        simpa using this
theorem spec_Quote_ev (s : ByteArray) : Ev (fun k => spec_Quote.f k s) (quote s) := by
  unfold spec_Quote.f quote
  by_cases h : s.size > 4096
  · rw [if_pos h]; simp only [if_pos (show (s.size : Int) > 4096 by omega)]; exact Ev.now _
  · rw [if_neg h]; simp only [if_neg (show ¬ (s.size : Int) > 4096 by omega)]
    exact spec_q s (by omega) s.size 0 [34] (by omega) (by simp; omega)
theorem impl_q (s : ByteArray) (hs : s.size ≤ 1000000) (d : Nat) : ∀ (i : Nat) (acc : List Int), i + d = s.size → acc.length + 3 * d ≤ 4000000 →
    Ev (fun k => impl_Quote.l0 k s acc i) (strOfNums (acc ++ qs ((bytesOf s).drop i) ++ [34])) := by
  induction d with
  | zero =>
    intro i acc hi ha
    refine Ev.step1 fun k => ?_
    simp only [impl_Quote.l0]
    rw [if_neg (by omega), if_pos (by omega), List.drop_of_length_le (by rw [len_bytesOf]; omega), qs_nil, List.append_nil]
  | succ d ih =>
    intro i acc hi ha
    have hr := bt_range s i
    rw [drop_bytes (by omega), qs_cons]
    by_cases hp : 33 ≤ bt s i ∧ bt s i ≤ 126 ∧ bt s i ≠ 34 ∧ bt s i ≠ 37
    · refine Ev.step (f := fun k => impl_Quote.l0 k s (acc ++ [bt s i]) ((i + 1 : Nat) : Int)) (fun k => ?_) ?_
      · simp only [impl_Quote.l0]
        rw [if_pos (by omega), if_pos (by omega), wr (n := bt s i) (by omega) (by omega), within_eq]
        simp only [Option.bind_some]
        rw [if_pos (decide_eq_true (by omega)), if_neg (by omega), if_neg (by omega), if_pos (by omega), wrS (by omega)]
      · have := ih (i + 1) (acc ++ [bt s i]) (by omega) (by simp; omega)
        rw [show q1 (bt s i) = [bt s i] by unfold q1 plainB; rw [if_pos (decide_eq_true hp)]]
        simpa using this
    · refine Ev.step (f := fun k => impl_Quote.l0 k s (acc ++ [37, hex (bt s i / 16), hex (bt s i % 16)]) ((i + 1 : Nat) : Int)) (fun k => ?_) ?_
      · have e1 := hex_fig (d := bt s i / 16) (by omega) (by omega)
        have e2 := hex_fig (d := bt s i % 16) (by omega) (by omega)
        have e3 := and15 (b := bt s i) (by omega) (by omega)
        simp only [impl_Quote.l0]
        rw [if_pos (by omega), if_pos (by omega), wr (n := bt s i) (by omega) (by omega), within_eq]
        simp only [Option.bind_some, e1, e2, e3]
        have t1 : (0 ≤ bt s i / 16) := by omega
        have t2 : (bt s i / 16 < 16) := by omega
        have t3 : (0 ≤ bt s i % 16) := by omega
        have t4 : (bt s i % 16 < 16) := by omega
        have t5 : acc.length + [37, hex (bt s i / 16), hex (bt s i % 16)].length < 140737488355328 := by simp; omega
        rw [wrS (by omega)]
        simp only [if_pos t1, if_pos t2, if_pos t3, if_pos t4, if_pos t5]
        by_cases h1 : 33 ≤ bt s i ∧ bt s i ≤ 126
        · rw [if_pos (decide_eq_true h1)]
          by_cases h3 : bt s i = 34
          · rw [if_pos h3]
          · rw [if_neg h3, if_pos (by omega)]
        · rw [if_neg (by simpa using h1)]
      · have := ih (i + 1) (acc ++ [37, hex (bt s i / 16), hex (bt s i % 16)]) (by omega) (by simp; omega)
        rw [show q1 (bt s i) = [37, hex (bt s i / 16), hex (bt s i % 16)] by unfold q1 plainB; rw [if_neg (by simpa using hp)]]
        simpa using this
theorem impl_Quote_ev (s : ByteArray) : Ev (fun k => impl_Quote.f k s) (quote s) := by
  unfold impl_Quote.f quote
  by_cases h : s.size > 4096
  · rw [if_pos h]; simp only [if_pos (show (s.size : Int) > 4096 by omega)]; exact Ev.now _
  · rw [if_neg h]; simp only [if_neg (show ¬ (s.size : Int) > 4096 by omega)]
    exact impl_q s (by omega) s.size 0 [34] (by omega) (by simp; omega)

/-! ### law_FnExactQuote -/
theorem FnExactQuote : laws_FnExactQuote.Pure := by
  intro a0 _
  refine Ev.rounds ?_
  unfold laws_FnExactQuote.f
  split
  · exact Ev.now _
  · refine Ev.bind (spec_Quote_ev a0) (Ev.bind (impl_Quote_ev a0) (Ev.one ?_))
    rw [if_pos rfl]

end Go.Proofs.Ytamipehbndckcaa.Pure
