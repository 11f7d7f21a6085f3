/- The pure statement of FnExactUnquote: what the printed functions of this law compute answers true, for every argument within the bounds that the statement names. -/
import Derived.Test.YtcdnfonholkflaaPFnExactUnquotex4
import Derived.Test.YtcdnfonholkflaaLib
import Derived.Test.YtcdnfonholkflaaLibOrd
import Derived.Test.YtcdnfonholkflaaLibOpen
namespace Go.Proofs.Ytcdnfonholkflaa.Pure
open Go Go.RowKit Go.Proofs.Ytcdnfonholkflaa.PFnExactUnquote Go.Proofs.YtcdnfonholkflaaW.PrintWords Go.Proofs.YtcdnfonholkflaaW.PrintLast Go.Proofs.YtcdnfonholkflaaW.PrintMore Go.Proofs.Ytcdnfonholkflaa.Lib
set_option linter.unusedVariables false
set_option linter.unusedSimpArgs false



/-! ### within -/
theorem within_eq (x lo hi : Int) : impl_within.f x lo hi = some (decide (lo ≤ x ∧ x ≤ hi)) := by
  unfold impl_within.f
  by_cases h : x ≥ lo
  · rw [if_pos h]; simp [h]
  · rw [if_neg h]; simp; omega

/-! ### quote -/
theorem l01Digit_eq {d : Int} (h : 0 ≤ d) (h2 : d < 16) : spec_l01Digit.f d = some (hex d) := by
  unfold spec_l01Digit.f hex
  by_cases c : d < 10
  · rw [if_pos c, if_pos c, wr (by omega) (by omega)]; congr 1; omega
  · rw [if_neg c, if_neg c, wr (n := 65 + d) (by omega) (by omega), wr (by omega) (by omega)]; congr 1; omega
theorem spec_q (s : ByteArray) (hs : s.size ≤ 1000000) (d : Nat) : ∀ (i : Nat) (acc : List Int), i + d = s.size → acc.length + 3 * d ≤ 4000000 →
    Ev (fun k => spec_Quote.l0 k s acc i) (strOfNums (acc ++ qs ((bytesOf s).drop i) ++ [34])) := by
  induction d with
  | zero =>
    intro i acc hi ha
    refine Ev.step1 fun k => ?_
    simp only [spec_Quote.l0]
    rw [if_neg (by omega), if_pos (by omega), List.drop_of_length_le (by rw [len_bytesOf]; omega), qs_nil, List.append_nil]
  | succ d ih =>
    intro i acc hi ha
    have hr := bt_range s i
    rw [drop_bytes (by omega), qs_cons]
    by_cases hp : 33 ≤ bt s i ∧ bt s i ≤ 126 ∧ bt s i ≠ 34 ∧ bt s i ≠ 37
    · refine Ev.step (f := fun k => spec_Quote.j1 k s acc i (bt s i) true) (fun k => ?_) (Ev.step (f := fun k => spec_Quote.l0 k s (acc ++ [bt s i]) ((i + 1 : Nat) : Int)) (fun k => ?_) ?_)
      · simp only [spec_Quote.l0]
        rw [if_pos (by omega), if_pos (by omega), if_pos (by omega), if_pos (by omega), if_neg (by omega), show (bt s i != 37) = true from bne_iff_ne.2 hp.2.2.2]
      · simp only [spec_Quote.j1]
        rw [if_pos trivial, if_pos (by omega), wrS (by omega)]
      · have := ih (i + 1) (acc ++ [bt s i]) (by omega) (by simp; omega)
        rw [show q1 (bt s i) = [bt s i] by unfold q1 plainB; rw [if_pos (decide_eq_true hp)]]
        simpa using this
    · refine Ev.step (f := fun k => spec_Quote.j1 k s acc i (bt s i) false) (fun k => ?_) (Ev.step (f := fun k => spec_Quote.l0 k s (acc ++ [37, hex (bt s i / 16), hex (bt s i % 16)]) ((i + 1 : Nat) : Int)) (fun k => ?_) ?_)
      · simp only [spec_Quote.l0]
        rw [if_pos (by omega), if_pos (by omega)]
        by_cases h1 : bt s i ≥ 33
        · rw [if_pos h1]
          by_cases h2 : bt s i ≤ 126
          · rw [if_pos h2]
            by_cases h3 : bt s i = 34
            · rw [if_pos h3]
            · rw [if_neg h3, show (bt s i != 37) = false by rw [bne_eq_false_iff_eq]; omega]
          · rw [if_neg h2]
        · rw [if_neg h1]
      · simp only [spec_Quote.j1]
        rw [if_neg (by decide), wr (n := bt s i) (by omega) (by omega), tdiv_pos (by omega), tmod_pos (by omega), wr (n := bt s i / 16) (by omega) (by omega), l01Digit_eq (by omega) (by omega), l01Digit_eq (by omega) (by omega)]
        simp only [Option.bind_some]
        rw [if_pos (by simp; omega), wrS (by omega)]
      · have := ih (i + 1) (acc ++ [37, hex (bt s i / 16), hex (bt s i % 16)]) (by omega) (by simp; omega)
        rw [show q1 (bt s i) = [37, hex (bt s i / 16), hex (bt s i % 16)] by unfold q1 plainB; rw [if_neg (by simpa using hp)]]
        simpa using this
theorem spec_Quote_ev (s : ByteArray) : Ev (fun k => spec_Quote.f k s) (quote s) := by
  unfold spec_Quote.f quote
  by_cases h : s.size > 4096
  · rw [if_pos h]; simp only [if_pos (show (s.size : Int) > 4096 by omega)]; exact Ev.now _
  · rw [if_neg h]; simp only [if_neg (show ¬ (s.size : Int) > 4096 by omega)]
    exact spec_q s (by omega) s.size 0 [34] (by omega) (by simp; omega)
theorem impl_q (s : ByteArray) (hs : s.size ≤ 1000000) (d : Nat) : ∀ (i : Nat) (acc : List Int), i + d = s.size → acc.length + 3 * d ≤ 4000000 →
    Ev (fun k => impl_Quote.l0 k s acc i) (strOfNums (acc ++ qs ((bytesOf s).drop i) ++ [34])) := by
  induction d with
  | zero =>
    intro i acc hi ha
    refine Ev.step1 fun k => ?_
    simp only [impl_Quote.l0]
    rw [if_neg (by omega), if_pos (by omega), List.drop_of_length_le (by rw [len_bytesOf]; omega), qs_nil, List.append_nil]
  | succ d ih =>
    intro i acc hi ha
    have hr := bt_range s i
    rw [drop_bytes (by omega), qs_cons]
    by_cases hp : 33 ≤ bt s i ∧ bt s i ≤ 126 ∧ bt s i ≠ 34 ∧ bt s i ≠ 37
    · refine Ev.step (f := fun k => impl_Quote.l0 k s (acc ++ [bt s i]) ((i + 1 : Nat) : Int)) (fun k => ?_) ?_
      · simp only [impl_Quote.l0]
        rw [if_pos (by omega), if_pos (by omega), wr (n := bt s i) (by omega) (by omega), within_eq]
        simp only [Option.bind_some]
        rw [if_pos (decide_eq_true (by omega)), if_neg (by omega), if_neg (by omega), if_pos (by omega), wrS (by omega)]
      · have := ih (i + 1) (acc ++ [bt s i]) (by omega) (by simp; omega)
        rw [show q1 (bt s i) = [bt s i] by unfold q1 plainB; rw [if_pos (decide_eq_true hp)]]
        simpa using this
    · refine Ev.step (f := fun k => impl_Quote.l0 k s (acc ++ [37, hex (bt s i / 16), hex (bt s i % 16)]) ((i + 1 : Nat) : Int)) (fun k => ?_) ?_
      · have e1 := hex_fig (d := bt s i / 16) (by omega) (by omega)
        have e2 := hex_fig (d := bt s i % 16) (by omega) (by omega)
        have e3 := and15 (b := bt s i) (by omega) (by omega)
        simp only [impl_Quote.l0]
        rw [if_pos (by omega), if_pos (by omega), wr (n := bt s i) (by omega) (by omega), within_eq]
        simp only [Option.bind_some, e1, e2, e3]
        have t1 : (0 ≤ bt s i / 16) := by omega
        have t2 : (bt s i / 16 < 16) := by omega
        have t3 : (0 ≤ bt s i % 16) := by omega
        have t4 : (bt s i % 16 < 16) := by omega
        have t5 : acc.length + [37, hex (bt s i / 16), hex (bt s i % 16)].length < 140737488355328 := by simp; omega
        rw [wrS (by omega)]
        simp only [if_pos t1, if_pos t2, if_pos t3, if_pos t4, if_pos t5]
        by_cases h1 : 33 ≤ bt s i ∧ bt s i ≤ 126
        · rw [if_pos (decide_eq_true h1)]
          by_cases h3 : bt s i = 34
          · rw [if_pos h3]
          · rw [if_neg h3, if_pos (by omega)]
        · rw [if_neg (by simpa using h1)]
      · have := ih (i + 1) (acc ++ [37, hex (bt s i / 16), hex (bt s i % 16)]) (by omega) (by simp; omega)
        rw [show q1 (bt s i) = [37, hex (bt s i / 16), hex (bt s i % 16)] by unfold q1 plainB; rw [if_neg (by simpa using hp)]]
        simpa using this
theorem impl_Quote_ev (s : ByteArray) : Ev (fun k => impl_Quote.f k s) (quote s) := by
  unfold impl_Quote.f quote
  by_cases h : s.size > 4096
  · rw [if_pos h]; simp only [if_pos (show (s.size : Int) > 4096 by omega)]; exact Ev.now _
  · rw [if_neg h]; simp only [if_neg (show ¬ (s.size : Int) > 4096 by omega)]
    exact impl_q s (by omega) s.size 0 [34] (by omega) (by simp; omega)

/-! ### unquote -/
/-- What a quoted text tells, read from one place on; it is judged by writing it again. -/
def uqEnd (s : ByteArray) (xs : List Int) : ByteArray × Bool := if quote (strOfNums xs) = s then (strOfNums xs, true) else (⟨#[]⟩, false)
theorem uq_quote_if (s : ByteArray) (xs : List Int) : (if (quote (strOfNums xs)).toList = s.toList then some (strOfNums xs, true) else some ((⟨#[]⟩ : ByteArray), false)) = some (uqEnd s xs) := by
  unfold uqEnd
  by_cases h : quote (strOfNums xs) = s
  · rw [if_pos (tl_inj.2 h), if_pos h]
  · rw [if_neg (fun e => h (tl_inj.1 e)), if_neg h]
/-- A figure's number, or none. -/
def unhex (b : Int) : Option Int := if 48 ≤ b ∧ b ≤ 57 then some (b - 48) else if 65 ≤ b ∧ b ≤ 70 then some (b - 55) else none
theorem unhex_hex {d : Int} (h : 0 ≤ d) (h2 : d < 16) : unhex (hex d) = some d := by
  unfold unhex hex
  by_cases c : d < 10
  · rw [if_pos c, if_pos (by omega)]; congr 1; omega
  · rw [if_neg c, if_neg (by omega), if_pos (by omega)]; congr 1; omega
theorem hex_unhex {b d : Int} (h : unhex b = some d) : 0 ≤ d ∧ d < 16 ∧ hex d = b := by
  unfold unhex at h
  split at h
  · injection h with h; subst h; unfold hex; rw [if_pos (by omega)]; omega
  · split at h
    · injection h with h; subst h; unfold hex; rw [if_neg (by omega)]; omega
    · cases h
theorem figure_l0 (b : Int) (d : Nat) : ∀ i : Nat, i + d = 16 → (∀ j : Nat, j < i → hex (j : Int) ≠ b) → Ev (fun k => impl_figure.l0 k b (i : Int)) ((unhex b).getD (-1)) := by
  induction d with
  | zero =>
    intro i hi hj
    have : unhex b = none := by
      cases e : unhex b with
      | none => rfl
      | some q =>
        have h := hex_unhex e
        exact absurd (by rw [Int.toNat_of_nonneg h.1]; exact h.2.2) (hj q.toNat (by omega))
    rw [this]
    refine Ev.step1 fun k => ?_
    simp only [impl_figure.l0]
    rw [if_neg (by omega)]
    rfl
  | succ d ih =>
    intro i hi hj
    by_cases c : hex (i : Int) = b
    · have : unhex b = some (i : Int) := by rw [← c]; exact unhex_hex (by omega) (by omega)
      rw [this]
      refine Ev.step1 fun k => ?_
      simp only [impl_figure.l0]
      rw [if_pos (by omega), if_pos (by omega), hex_fig (by omega) (by omega), if_pos c]
      rfl
    · refine Ev.step (f := fun k => impl_figure.l0 k b ((i + 1 : Nat) : Int)) (fun k => ?_) (ih (i + 1) (by omega) (fun j h => by
        by_cases e : j = i
        · rw [e]; exact c
        · exact hj j (by omega)))
      simp only [impl_figure.l0]
      rw [if_pos (by omega), if_pos (by omega), hex_fig (by omega) (by omega), if_neg c, wrS (by omega)]
theorem impl_figure_ev (b : Int) : Ev (fun k => impl_figure.f k b) ((unhex b).getD (-1)) := figure_l0 b 16 0 (by omega) (fun j h => by omega)

/-! ### implUnquote -/
theorem impl_uq_end (s : ByteArray) (acc : List Int) (h : 1 ≤ s.size) (i : Int) (hi : ¬ i < wrap64 ((s.size : Int) - 1)) : Ev (fun k => impl_Unquote.l0 k s acc i) (uqEnd s acc) := by
  refine Ev.step (f := fun k => (impl_Quote.f k (strOfNums acc)).bind fun t => if t.toList = s.toList then some (strOfNums acc, true) else some ((⟨#[]⟩ : ByteArray), false)) (fun k => ?_) (Ev.bind (impl_Quote_ev _) (Ev.one (uq_quote_if s acc)))
  simp only [impl_Unquote.l0]
  rw [if_neg hi, if_neg (fun e => by have := tl_nil.1 e; omega)]
theorem impl_uq (xs : List Int) (hb : Byt xs) (hl : xs.length ≤ 4096) : ∀ (rest acc : List Int), acc ++ rest = xs →
    Ev (fun k => impl_Unquote.l0 k (strOfNums (wrapQ xs)) acc ((1 + (qs acc).length : Nat) : Int)) (strOfNums xs, true)
  | [], acc, he => by
    rw [List.append_nil] at he
    subst he
    have := impl_uq_end (strOfNums (wrapQ acc)) acc (by rw [size_son, wrapQ_len]; omega) ((1 + (qs acc).length : Nat) : Int) (by rw [size_son, wrapQ_len]; have := qs_len acc; rw [wr (by omega) (by omega)]; omega)
    unfold uqEnd at this
    rw [if_pos (quote_son hb hl)] at this
    exact this
  | b :: rest, acc, he => by
    have hn := qs_len acc
    have hn2 := qs_len rest
    have hlen : acc.length + rest.length + 1 = xs.length := by rw [← he]; simp; omega
    have hbb : 0 ≤ b ∧ b < 256 := hb b (by rw [← he]; simp)
    have hL : wrapQ xs = ([34] ++ qs acc) ++ (q1 b ++ (qs rest ++ [34])) := by rw [← he]; simp [wrapQ, qs_app, qs_cons]
    have hsz : (wrapQ xs).length = 1 + (qs acc).length + (q1 b).length + (qs rest).length + 1 := by rw [hL]; simp; omega
    have hB := wrapQ_byt hb
    by_cases hp : plainB b = true
    · have hq := q1_plain hp
      rw [hq] at hsz hL
      simp at hsz
      refine Ev.step (f := fun k => impl_Unquote.l0 k (strOfNums (wrapQ xs)) (acc ++ [b]) ((1 + (qs (acc ++ [b])).length : Nat) : Int)) (fun k => ?_) (impl_uq xs hb hl rest (acc ++ [b]) (by rw [List.append_assoc]; exact he))
      simp only [impl_Unquote.l0]
      have hr : bt (strOfNums (wrapQ xs)) ((1 + (qs acc).length : Nat) : Int) = b := by
        rw [bt_son hB, hL]; exact rd_mid _ _ _ (by simp; omega)
      rw [if_pos (by rw [size_son, wr (by omega) (by omega)]; omega), if_pos (by omega), if_pos (by rw [size_son]; omega), hr, if_neg (plain_ne hp), if_pos (by omega), wrS (by omega), show (qs (acc ++ [b])).length = (qs acc).length + 1 by rw [qs_app, qs_cons, hq]; simp [qs]]
      rfl
    · have hq := q1_other hp
      rw [hq] at hsz hL
      simp at hsz
      refine Ev.step (f := fun k => (impl_figure.f k (hex (b / 16))).bind fun x => (impl_figure.f k (hex (b % 16))).bind fun y => if x < 0 then some ((⟨#[]⟩ : ByteArray), false) else if y < 0 then some ((⟨#[]⟩ : ByteArray), false) else impl_Unquote.l0 k (strOfNums (wrapQ xs)) (acc ++ [(wrap64 (wrap64 (16 * x) + y)) % 256]) ((1 + (qs (acc ++ [b])).length : Nat) : Int)) (fun k => ?_) ?_
      · simp only [impl_Unquote.l0]
        have hr : bt (strOfNums (wrapQ xs)) ((1 + (qs acc).length : Nat) : Int) = 37 := by
          rw [bt_son hB, hL]; exact rd_mid _ _ _ (by simp; omega)
        have hr1 : bt (strOfNums (wrapQ xs)) ((1 + (qs acc).length : Nat) + 1 : Int) = hex (b / 16) := by
          rw [bt_son hB, hL, show ([34] ++ qs acc ++ ([37, hex (b / 16), hex (b % 16)] ++ (qs rest ++ [34]))) = ([34] ++ qs acc ++ [37]) ++ hex (b / 16) :: (hex (b % 16) :: (qs rest ++ [34])) by simp]
          exact rd_mid _ _ _ (by simp; omega)
        have hr2 : bt (strOfNums (wrapQ xs)) ((1 + (qs acc).length : Nat) + 2 : Int) = hex (b % 16) := by
          rw [bt_son hB, hL, show ([34] ++ qs acc ++ ([37, hex (b / 16), hex (b % 16)] ++ (qs rest ++ [34]))) = ([34] ++ qs acc ++ [37, hex (b / 16)]) ++ hex (b % 16) :: (qs rest ++ [34]) by simp]
          exact rd_mid _ _ _ (by simp; omega)
        rw [if_pos (by rw [size_son, wr (by omega) (by omega)]; omega), if_pos (by omega), if_pos (by rw [size_son]; omega), hr, if_pos rfl,
          wr (n := ((1 + (qs acc).length : Nat) : Int) + 2) (by omega) (by omega), wr (n := ((1 + (qs acc).length : Nat) : Int) + 1) (by omega) (by omega), hr1, hr2,
          if_neg (by rw [size_son, wr (by omega) (by omega)]; omega), if_pos (by omega), if_pos (by rw [size_son]; omega)]
        have p1 : 0 ≤ ((1 + (qs acc).length : Nat) : Int) + 2 := by omega
        have p2 : ((1 + (qs acc).length : Nat) : Int) + 2 < ((strOfNums (wrapQ xs)).size : Int) := by rw [size_son]; omega
        have p3 : acc.length < 140737488355328 := by omega
        have e3 : wrap64 (((1 + (qs acc).length : Nat) : Int) + 2 + 1) = ((1 + (qs (acc ++ [b])).length : Nat) : Int) := by
          rw [wr (by omega) (by omega), show (qs (acc ++ [b])).length = (qs acc).length + 3 by rw [qs_app, qs_cons, hq]; simp [qs]]
          omega
        simp only [if_pos p1, if_pos p2, if_pos p3, e3]
      · have f1 := impl_figure_ev (hex (b / 16))
        have f2 := impl_figure_ev (hex (b % 16))
        rw [unhex_hex (by omega) (by omega)] at f1 f2
        refine Ev.bind f1 (Ev.bind f2 ?_)
        simp only [Option.getD_some]
        simp only [if_neg (show ¬ b / 16 < 0 by omega), if_neg (show ¬ b % 16 < 0 by omega)]
        rw [wr (n := 16 * (b / 16)) (by omega) (by omega), wr (by omega) (by omega), show (16 * (b / 16) + b % 16) % 256 = b by omega]
        exact impl_uq xs hb hl rest (acc ++ [b]) (by rw [List.append_assoc]; exact he)
/-- What comes of any text: nothing, or what is written as that text. -/
def uqGood (s : ByteArray) (r : ByteArray × Bool) : Prop := r = (⟨#[]⟩, false) ∨ (r.2 = true ∧ quote r.1 = s)
theorem uqEnd_good (s : ByteArray) (xs : List Int) : uqGood s (uqEnd s xs) := by
  unfold uqEnd
  by_cases h : quote (strOfNums xs) = s
  · rw [if_pos h]; exact .inr ⟨rfl, h⟩
  · rw [if_neg h]; exact .inl rfl
theorem impl_uq_any (s : ByteArray) (hs : s.size ≤ 140737488351232) (h1 : 1 ≤ s.size) (d : Nat) : ∀ (i : Nat) (acc : List Int), s.size ≤ i + d → 1 ≤ i → acc.length ≤ i → ∃ r, Ev (fun k => impl_Unquote.l0 k s acc (i : Int)) r ∧ uqGood s r := by
  have hw : wrap64 ((s.size : Int) - 1) = (s.size : Int) - 1 := wr (by omega) (by omega)
  induction d with
  | zero =>
    intro i acc hi _ ha
    exact ⟨_, impl_uq_end s acc h1 i (by rw [hw]; omega), uqEnd_good _ _⟩
  | succ d ih =>
    intro i acc hi hi1 ha
    by_cases c : (i : Int) < (s.size : Int) - 1
    · by_cases c2 : bt s (i : Int) = 37
      · by_cases c3 : (i : Int) + 2 ≥ (s.size : Int) - 1
        · refine ⟨_, Ev.step1 fun k => ?_, .inl rfl⟩
          simp only [impl_Unquote.l0]
          rw [hw, if_pos c, if_pos (by omega), if_pos (by omega), if_pos c2, wr (n := (i : Int) + 2) (by omega) (by omega), if_pos c3]
        · obtain ⟨x, f1⟩ : ∃ x, Ev (fun k => impl_figure.f k (bt s ((i : Int) + 1))) x := ⟨_, impl_figure_ev _⟩
          obtain ⟨y, f2⟩ : ∃ y, Ev (fun k => impl_figure.f k (bt s ((i : Int) + 2))) y := ⟨_, impl_figure_ev _⟩
          obtain ⟨r, hr, hg⟩ := ih (i + 3) (acc ++ [(wrap64 (wrap64 (16 * x) + y)) % 256]) (by omega) (by omega) (by simp; omega)
          have key : ∀ k, impl_Unquote.l0 (k + 1) s acc (i : Int) = (impl_figure.f k (bt s ((i : Int) + 1))).bind fun x => (impl_figure.f k (bt s ((i : Int) + 2))).bind fun y => if x < 0 then some ((⟨#[]⟩ : ByteArray), false) else if y < 0 then some ((⟨#[]⟩ : ByteArray), false) else impl_Unquote.l0 k s (acc ++ [(wrap64 (wrap64 (16 * x) + y)) % 256]) ((i + 3 : Nat) : Int) := by
            intro k
            simp only [impl_Unquote.l0]
            rw [hw, if_pos c, if_pos (by omega), if_pos (by omega), if_pos c2, wr (n := (i : Int) + 2) (by omega) (by omega), wr (n := (i : Int) + 1) (by omega) (by omega), if_neg c3, if_pos (by omega), if_pos (by omega)]
            have p1 : 0 ≤ (i : Int) + 2 := by omega
            have p2 : (i : Int) + 2 < (s.size : Int) := by omega
            have p3 : acc.length < 140737488355328 := by omega
            have e3 : wrap64 ((i : Int) + 2 + 1) = ((i + 3 : Nat) : Int) := by rw [wr (by omega) (by omega)]; omega
            simp only [if_pos p1, if_pos p2, if_pos p3, e3]
          by_cases hx : x < 0
          · refine ⟨(⟨#[]⟩, false), Ev.step key (Ev.bind f1 (Ev.bind f2 ?_)), .inl rfl⟩
            simp only [if_pos hx]
            exact Ev.now _
          · by_cases hy : y < 0
            · refine ⟨(⟨#[]⟩, false), Ev.step key (Ev.bind f1 (Ev.bind f2 ?_)), .inl rfl⟩
              simp only [if_neg hx, if_pos hy]
              exact Ev.now _
            · refine ⟨r, Ev.step key (Ev.bind f1 (Ev.bind f2 ?_)), hg⟩
              simp only [if_neg hx, if_neg hy]
              exact hr
      · obtain ⟨r, hr, hg⟩ := ih (i + 1) (acc ++ [bt s (i : Int)]) (by omega) (by omega) (by simp; omega)
        refine ⟨r, Ev.step (fun k => ?_) hr, hg⟩
        simp only [impl_Unquote.l0]
        rw [hw, if_pos c, if_pos (by omega), if_pos (by omega), if_neg c2, if_pos (by omega), wrS (by omega)]
    · exact ⟨_, impl_uq_end s acc h1 i (by rw [hw]; exact c), uqEnd_good _ _⟩
open Classical in
/-- What a text tells, if it is one that is written so. -/
noncomputable def unquoteOf (s : ByteArray) : ByteArray × Bool := if h : ∃ x : ByteArray, quote x = s ∧ 1 ≤ s.size then (Classical.choose h, true) else (⟨#[]⟩, false)
theorem quote_inj_core (s : ByteArray) (r : ByteArray × Bool) (hg : uqGood s r) (h1 : 1 ≤ s.size) (hA : ∀ xs : List Int, Byt xs → xs.length ≤ 4096 → s = strOfNums (wrapQ xs) → r = (strOfNums xs, true)) : r = unquoteOf s := by
  unfold unquoteOf
  split
  · rename_i h
    obtain ⟨hq, _⟩ := Classical.choose_spec h
    generalize Classical.choose h = x at hq
    rcases quote_size x with e | ⟨e, hl⟩
    · rw [hq] at e; omega
    · have := hA (bytesOf x) (bytesOf_Byt x) (by rw [len_bytesOf]; exact hl) (by rw [← hq, e]; rfl)
      rw [this, son_bytesOf]
  · rename_i h
    rcases hg with e | ⟨_, e⟩
    · exact e
    · exact absurd ⟨_, e, h1⟩ h
theorem Ev.uniq {α : Type} {g : Nat → Option α} {a b : α} (h : Ev g a) (k : Ev g b) : a = b := by
  obtain ⟨K, h⟩ := h
  obtain ⟨K', k⟩ := k
  have h1 := h (max K K') (by omega)
  have h2 := k (max K K') (by omega)
  rw [h1] at h2
  injection h2
theorem impl_Unquote_ev (s : ByteArray) (hs : s.size ≤ 140737488351232) : Ev (fun k => impl_Unquote.f k s) (unquoteOf s) := by
  unfold impl_Unquote.f
  by_cases h1 : 1 ≤ s.size
  · obtain ⟨r, hr, hg⟩ := impl_uq_any s hs h1 s.size 1 [] (by omega) (by omega) (by simp)
    have : r = unquoteOf s := quote_inj_core s r hg h1 (fun xs hb hl e => by
      have h := impl_uq xs hb hl xs [] rfl
      rw [← e] at h
      exact Ev.uniq hr (by simpa [qs] using h))
    rw [← this]
    exact hr
  · have : unquoteOf s = (⟨#[]⟩, false) := by unfold unquoteOf; rw [dif_neg (fun f => by obtain ⟨_, _, h⟩ := f; exact h1 h)]
    rw [this]
    refine Ev.step1 fun k => ?_
    simp only [impl_Unquote.l0]
    rw [if_neg (by rw [wr (by omega) (by omega)]; omega), if_pos (tl_nil.2 (by omega))]

/-! ### specUnquote -/
theorem half_l0 (b : Int) (d : Nat) : ∀ i : Nat, i + d = 16 → (∀ j : Nat, j < i → hex (j : Int) ≠ b) → Ev (fun k => spec_l01Half.l0 k b (i : Int)) ((unhex b).getD 16) := by
  induction d with
  | zero =>
    intro i hi hj
    have : unhex b = none := by
      cases e : unhex b with
      | none => rfl
      | some q =>
        have h := hex_unhex e
        exact absurd (by rw [Int.toNat_of_nonneg h.1]; exact h.2.2) (hj q.toNat (by omega))
    rw [this]
    refine Ev.step1 fun k => ?_
    simp only [spec_l01Half.l0]
    rw [if_neg (by omega), show (i : Int) = 16 by omega]
    rfl
  | succ d ih =>
    intro i hi hj
    by_cases c : hex (i : Int) = b
    · have : unhex b = some (i : Int) := by rw [← c]; exact unhex_hex (by omega) (by omega)
      rw [this]
      refine Ev.step1 fun k => ?_
      simp only [spec_l01Half.l0]
      rw [if_pos (by omega), l01Digit_eq (by omega) (by omega)]
      simp only [Option.bind_some]
      rw [if_pos c]
      rfl
    · refine Ev.step (f := fun k => spec_l01Half.l0 k b ((i + 1 : Nat) : Int)) (fun k => ?_) (ih (i + 1) (by omega) (fun j h => by
        by_cases e : j = i
        · rw [e]; exact c
        · exact hj j (by omega)))
      simp only [spec_l01Half.l0]
      rw [if_pos (by omega), l01Digit_eq (by omega) (by omega)]
      simp only [Option.bind_some]
      rw [if_neg c, wrS (by omega)]
theorem spec_l01Half_ev (b : Int) : Ev (fun k => spec_l01Half.f k b) ((unhex b).getD 16) := half_l0 b 16 0 (by omega) (fun j h => by omega)
theorem spec_uq_end (s : ByteArray) (acc : List Int) (i : Int) (hi : ¬ i < wrap64 ((s.size : Int) - 1)) : Ev (fun k => spec_Unquote.l0 k s acc i) (uqEnd s acc) := by
  refine Ev.step (f := fun k => (spec_Quote.f k (strOfNums acc)).bind fun t => if t.toList = s.toList then some (strOfNums acc, true) else some ((⟨#[]⟩ : ByteArray), false)) (fun k => ?_) (Ev.bind (spec_Quote_ev _) (Ev.one (uq_quote_if s acc)))
  simp only [spec_Unquote.l0]
  rw [if_neg hi]
theorem spec_uq_raw (s : ByteArray) (hs : s.size ≤ 1000000) (i : Nat) (acc : List Int) (ha : acc.length ≤ 1000000) (c : (i : Int) < (s.size : Int) - 1) (c2 : ¬ (bt s (i : Int) = 37 ∧ (i : Int) + 2 < s.size)) {r : ByteArray × Bool}
    (h : Ev (fun k => spec_Unquote.l0 k s (acc ++ [bt s (i : Int)]) ((i + 1 : Nat) : Int)) r) : Ev (fun k => spec_Unquote.l0 k s acc (i : Int)) r := by
  refine Ev.step (f := fun k => spec_Unquote.j2 k s acc (i : Int) false) (fun k => ?_) (Ev.step (fun k => ?_) h)
  · simp only [spec_Unquote.l0]
    rw [wr (n := (s.size : Int) - 1) (by omega) (by omega), if_pos c, if_pos (by omega), if_pos (by omega)]
    by_cases e : bt s (i : Int) = 37
    · rw [if_pos e, wr (by omega) (by omega), decide_eq_false (fun f => c2 ⟨e, f⟩)]
    · rw [if_neg e]
  · simp only [spec_Unquote.j2]
    rw [if_neg (by decide), if_pos (by omega), if_pos (by omega), if_pos (by omega), wrS (by omega)]
theorem spec_uq_pair (s : ByteArray) (hs : s.size ≤ 1000000) (i : Nat) (acc : List Int) (ha : acc.length ≤ 1000000) (c : (i : Int) < (s.size : Int) - 1) (c2 : bt s (i : Int) = 37) (c3 : (i : Int) + 2 < s.size) (x y : Int)
    (f1 : Ev (fun k => spec_l01Half.f k (bt s ((i : Int) + 1))) x) (f2 : Ev (fun k => spec_l01Half.f k (bt s ((i : Int) + 2))) y) {r : ByteArray × Bool}
    (h : Ev (fun k => spec_Unquote.l0 k s (acc ++ [(wrap64 ((wrap64 (Int.tmod x 16 * 16)) + Int.tmod y 16)) % 256]) ((i + 3 : Nat) : Int)) r) : Ev (fun k => spec_Unquote.l0 k s acc (i : Int)) r := by
  refine Ev.step (f := fun k => spec_Unquote.j2 k s acc (i : Int) true) (fun k => ?_) (Ev.step (f := fun k => (spec_l01Half.f k (bt s ((i : Int) + 1))).bind fun x => (spec_l01Half.f k (bt s ((i : Int) + 2))).bind fun y => spec_Unquote.l0 k s (acc ++ [(wrap64 ((wrap64 (Int.tmod x 16 * 16)) + Int.tmod y 16)) % 256]) ((i + 3 : Nat) : Int)) (fun k => ?_) (Ev.bind f1 (Ev.bind f2 h)))
  · simp only [spec_Unquote.l0]
    rw [wr (n := (s.size : Int) - 1) (by omega) (by omega), if_pos c, if_pos (by omega), if_pos (by omega), if_pos c2, wr (by omega) (by omega), decide_eq_true c3]
  · simp only [spec_Unquote.j2]
    rw [if_pos trivial, wr (n := (i : Int) + 1) (by omega) (by omega), wr (n := (i : Int) + 2) (by omega) (by omega), if_pos (by omega), if_pos (by omega)]
    have p1 : 0 ≤ (i : Int) + 2 := by omega
    have p3 : acc.length < 140737488355328 := by omega
    have e3 : wrap64 ((i : Int) + 2 + 1) = ((i + 3 : Nat) : Int) := by rw [wr (by omega) (by omega)]; omega
    simp only [if_pos p1, if_pos c3, if_pos p3, e3]
theorem spec_uq_any (s : ByteArray) (hs : s.size ≤ 1000000) (d : Nat) : ∀ (i : Nat) (acc : List Int), s.size ≤ i + d → acc.length ≤ i → i ≤ 1000003 → ∃ r, Ev (fun k => spec_Unquote.l0 k s acc (i : Int)) r ∧ uqGood s r := by
  have hw : wrap64 ((s.size : Int) - 1) = (s.size : Int) - 1 := wr (by omega) (by omega)
  induction d with
  | zero =>
    intro i acc hi ha _
    exact ⟨_, spec_uq_end s acc i (by rw [hw]; omega), uqEnd_good _ _⟩
  | succ d ih =>
    intro i acc hi ha hm
    by_cases c : (i : Int) < (s.size : Int) - 1
    · by_cases c2 : bt s (i : Int) = 37 ∧ (i : Int) + 2 < s.size
      · obtain ⟨x, f1⟩ : ∃ x, Ev (fun k => spec_l01Half.f k (bt s ((i : Int) + 1))) x := ⟨_, spec_l01Half_ev _⟩
        obtain ⟨y, f2⟩ : ∃ y, Ev (fun k => spec_l01Half.f k (bt s ((i : Int) + 2))) y := ⟨_, spec_l01Half_ev _⟩
        obtain ⟨r, hr, hg⟩ := ih (i + 3) (acc ++ [(wrap64 ((wrap64 (Int.tmod x 16 * 16)) + Int.tmod y 16)) % 256]) (by omega) (by simp; omega) (by omega)
        exact ⟨r, spec_uq_pair s hs i acc (by omega) c c2.1 c2.2 x y f1 f2 hr, hg⟩
      · obtain ⟨r, hr, hg⟩ := ih (i + 1) (acc ++ [bt s (i : Int)]) (by omega) (by simp; omega) (by omega)
        exact ⟨r, spec_uq_raw s hs i acc (by omega) c c2 hr, hg⟩
    · exact ⟨_, spec_uq_end s acc i (by rw [hw]; exact c), uqEnd_good _ _⟩
theorem spec_uq (xs : List Int) (hb : Byt xs) (hl : xs.length ≤ 4096) : ∀ (rest acc : List Int), acc ++ rest = xs →
    Ev (fun k => spec_Unquote.l0 k (strOfNums (wrapQ xs)) acc ((1 + (qs acc).length : Nat) : Int)) (strOfNums xs, true)
  | [], acc, he => by
    rw [List.append_nil] at he
    subst he
    have hn := qs_len acc
    have := spec_uq_end (strOfNums (wrapQ acc)) acc ((1 + (qs acc).length : Nat) : Int) (by rw [size_son, wrapQ_len]; rw [wr (by omega) (by omega)]; omega)
    unfold uqEnd at this
    rw [if_pos (quote_son hb hl)] at this
    exact this
  | b :: rest, acc, he => by
    have hn := qs_len acc
    have hn2 := qs_len rest
    have hlen : acc.length + rest.length + 1 = xs.length := by rw [← he]; simp; omega
    have hbb : 0 ≤ b ∧ b < 256 := hb b (by rw [← he]; simp)
    have hL : wrapQ xs = ([34] ++ qs acc) ++ (q1 b ++ (qs rest ++ [34])) := by rw [← he]; simp [wrapQ, qs_app, qs_cons]
    have hsz : (wrapQ xs).length = 1 + (qs acc).length + (q1 b).length + (qs rest).length + 1 := by rw [hL]; simp; omega
    have hB := wrapQ_byt hb
    by_cases hp : plainB b = true
    · have hq := q1_plain hp
      rw [hq] at hsz hL
      simp at hsz
      have hr : bt (strOfNums (wrapQ xs)) ((1 + (qs acc).length : Nat) : Int) = b := by
        rw [bt_son hB, hL]; exact rd_mid _ _ _ (by simp; omega)
      have h := spec_uq xs hb hl rest (acc ++ [b]) (by rw [List.append_assoc]; exact he)
      rw [show (qs (acc ++ [b])).length = (qs acc).length + 1 by rw [qs_app, qs_cons, hq]; simp [qs], ← Nat.add_assoc] at h
      refine spec_uq_raw _ (by rw [size_son]; omega) _ acc (by omega) (by rw [size_son]; omega) (by rw [hr]; exact fun f => plain_ne hp f.1) ?_
      rw [hr]
      exact h
    · have hq := q1_other hp
      rw [hq] at hsz hL
      simp at hsz
      have hr : bt (strOfNums (wrapQ xs)) ((1 + (qs acc).length : Nat) : Int) = 37 := by
        rw [bt_son hB, hL]; exact rd_mid _ _ _ (by simp; omega)
      have hr1 : bt (strOfNums (wrapQ xs)) ((1 + (qs acc).length : Nat) + 1 : Int) = hex (b / 16) := by
        rw [bt_son hB, hL, show ([34] ++ qs acc ++ ([37, hex (b / 16), hex (b % 16)] ++ (qs rest ++ [34]))) = ([34] ++ qs acc ++ [37]) ++ hex (b / 16) :: (hex (b % 16) :: (qs rest ++ [34])) by simp]
        exact rd_mid _ _ _ (by simp; omega)
      have hr2 : bt (strOfNums (wrapQ xs)) ((1 + (qs acc).length : Nat) + 2 : Int) = hex (b % 16) := by
        rw [bt_son hB, hL, show ([34] ++ qs acc ++ ([37, hex (b / 16), hex (b % 16)] ++ (qs rest ++ [34]))) = ([34] ++ qs acc ++ [37, hex (b / 16)]) ++ hex (b % 16) :: (qs rest ++ [34]) by simp]
        exact rd_mid _ _ _ (by simp; omega)
      have f1 := spec_l01Half_ev (hex (b / 16))
      have f2 := spec_l01Half_ev (hex (b % 16))
      rw [unhex_hex (by omega) (by omega)] at f1 f2
      simp only [Option.getD_some] at f1 f2
      have h := spec_uq xs hb hl rest (acc ++ [b]) (by rw [List.append_assoc]; exact he)
      rw [show (qs (acc ++ [b])).length = (qs acc).length + 3 by rw [qs_app, qs_cons, hq]; simp [qs], ← Nat.add_assoc] at h
      refine spec_uq_pair _ (by rw [size_son]; omega) _ acc (by omega) (by rw [size_son]; omega) hr (by rw [size_son]; omega) (b / 16) (b % 16) (by rw [hr1]; exact f1) (by rw [hr2]; exact f2) ?_
      rw [tmod_pos (by omega), tmod_pos (by omega), wr (n := b / 16 % 16 * 16) (by omega) (by omega), wr (by omega) (by omega), show (b / 16 % 16 * 16 + b % 16 % 16) % 256 = b by omega]
      exact h
theorem spec_Unquote_ev (s : ByteArray) (hs : s.size ≤ 140737488351232) : Ev (fun k => spec_Unquote.f k s) (unquoteOf s) := by
  have no : ¬ (2 ≤ s.size ∧ s.size ≤ 12290) → unquoteOf s = (⟨#[]⟩, false) := by
    intro hn
    unfold unquoteOf
    rw [dif_neg]
    rintro ⟨x, hx, h1⟩
    rcases quote_size x with e | ⟨e, hl⟩
    · rw [hx] at e; omega
    · have h2 : s.size = (qs (bytesOf x)).length + 2 := by rw [← hx, e, size_son]; simp
      have h3 := qs_len (bytesOf x)
      rw [len_bytesOf] at h3
      omega
  unfold spec_Unquote.f
  by_cases c : (s.size : Int) < 2
  · simp only [if_pos c]
    rw [no (by omega)]
    exact Ev.step1 fun k => by simp only [spec_Unquote.j0]; rfl
  · simp only [if_neg c]
    by_cases c2 : (s.size : Int) > 12290
    · rw [no (by omega)]
      exact Ev.step1 fun k => by simp only [spec_Unquote.j0]; rw [if_pos (decide_eq_true c2)]
    · refine Ev.step (f := fun k => spec_Unquote.l0 k s [] 1) (fun k => by simp only [spec_Unquote.j0]; rw [if_neg (fun e => c2 (of_decide_eq_true e))]) ?_
      obtain ⟨r, hr, hg⟩ := spec_uq_any s (by omega) s.size 1 [] (by omega) (by simp) (by omega)
      have : r = unquoteOf s := quote_inj_core s r hg (by omega) (fun xs hb hl e => by
        have h := spec_uq xs hb hl xs [] rfl
        rw [← e] at h
        exact Ev.uniq hr (by simpa [qs] using h))
      rw [← this]
      exact hr

/-! ### law_FnExactUnquote -/
theorem FnExactUnquote (a0 : ByteArray) (w0 : a0.size ≤ 140737488351232) : ∃ k, laws_FnExactUnquote.f k a0 = some true := by
  refine Ev.rounds ?_
  unfold laws_FnExactUnquote.f
  split
  · exact Ev.now _
  · refine Ev.bind (spec_Unquote_ev a0 w0) (Ev.bind (impl_Unquote_ev a0 w0) (Ev.one ?_))
    rw [if_pos rfl, if_neg (ne_self _)]

end Go.Proofs.Ytcdnfonholkflaa.Pure
