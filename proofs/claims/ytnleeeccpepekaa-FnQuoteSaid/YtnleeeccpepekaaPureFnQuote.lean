/- The pure statement of FnQuote: what the printed functions of this law compute answers true, for every argument within the bounds that the statement names. -/
import Derived.Test.YtnleeeccpepekaaPFnQuotex4
import Derived.Test.YtnleeeccpepekaaLib
import Derived.Test.YtnleeeccpepekaaLibOrd
import Derived.Test.YtnleeeccpepekaaLibOpen
namespace Go.Proofs.Ytnleeeccpepekaa.Pure
open Go Go.RowKit Go.Proofs.Ytnleeeccpepekaa.PFnQuote Go.Proofs.YtnleeeccpepekaaW.PrintWords Go.Proofs.YtnleeeccpepekaaW.PrintLast Go.Proofs.YtnleeeccpepekaaW.PrintMore Go.Proofs.Ytnleeeccpepekaa.Lib
set_option linter.unusedVariables false
set_option linter.unusedSimpArgs false

def G5 (x : Int) : Prop := (Lit.int .u8 x).wf = true
def G22 (xs : List (Int)) : Prop := xs.length * 1 ≤ 140737488351232 ∧ ∀ x ∈ xs, G5 x

/-! ### draws -/
theorem and255 (n : Int) : 0 ≤ Go.bits .and .i64 n 255 ∧ Go.bits .and .i64 n 255 ≤ 255 := by
  have h : Go.bits .and .i64 n 255 = n % 256 := by
    have h255 : (BitVec.ofInt 64 255).toNat = 2 ^ 8 - 1 := by decide
    have key : (BitVec.ofInt 64 n &&& BitVec.ofInt 64 255).toNat = (n % ((2 ^ 64 : Nat) : Int)).toNat % 2 ^ 8 := by
      rw [BitVec.toNat_and, BitVec.toNat_ofInt, h255, Nat.and_two_pow_sub_one_eq_mod]
    show IntKind.i64.wrap ((BitVec.ofInt 64 n &&& BitVec.ofInt 64 255).toNat : Nat) = n % 256
    rw [key, IntKind.wrap_i64]
    omega
  rw [h]
  omega
/-- A cursor's place. -/
def At (b : List Int) (i : Int) : Prop := 0 ≤ i ∧ i ≤ b.length
theorem byte_some (b : List Int) (hl : b.length ≤ 140737488351232) (i h : Int) (hi : At b i) : ∃ v i' h', spec_l01Byte.f b i h = some (v, i', h') ∧ 0 ≤ v ∧ v ≤ 255 ∧ At b i' := by
  unfold spec_l01Byte.f
  by_cases c : i < (b.length : Int)
  · rw [if_pos c, if_pos hi.1]
    exact ⟨_, _, _, rfl, (and255 _).1, (and255 _).2, by unfold At; rw [wr (by have := hi.1; omega) (by omega)]; have := hi.1; omega⟩
  · rw [if_neg c]
    exact ⟨_, _, _, rfl, (and255 _).1, (and255 _).2, hi⟩
theorem below_some (b : List Int) (hl : b.length ≤ 140737488351232) (i h n : Int) (hi : At b i) (h0 : 0 < n) (hn : n ≤ 16777216) : ∃ v i' h', spec_l01Below.f b i h n = some (v, i', h') ∧ 0 ≤ v ∧ v < n ∧ At b i' := by
  unfold spec_l01Below.f
  rw [if_neg (by omega)]
  by_cases c : n ≤ 256
  · rw [if_pos c]
    obtain ⟨v, i', h', e, hv, hv2, ha⟩ := byte_some b hl i h hi
    rw [e]
    simp only [Option.bind_some]
    rw [if_neg (by omega), tmod_pos hv]
    exact ⟨_, _, _, rfl, Int.emod_nonneg _ (by omega), Int.emod_lt_of_pos _ h0, ha⟩
  · rw [if_neg c]
    obtain ⟨v1, i1, h1, e1, p1, q1, a1⟩ := byte_some b hl i h hi
    obtain ⟨v2, i2, h2, e2, p2, q2, a2⟩ := byte_some b hl i1 h1 a1
    obtain ⟨v3, i3, h3, e3, p3, q3, a3⟩ := byte_some b hl i2 h2 a2
    obtain ⟨v4, i4, h4, e4, p4, q4, a4⟩ := byte_some b hl i3 h3 a3
    rw [e1]; simp only [Option.bind_some]
    rw [e2]; simp only [Option.bind_some]
    rw [e3]; simp only [Option.bind_some]
    rw [e4]; simp only [Option.bind_some]
    rw [if_neg (by omega), wr (n := v1 * 16777216) (by omega) (by omega), wr (n := v2 * 65536) (by omega) (by omega), wr (n := v1 * 16777216 + v2 * 65536) (by omega) (by omega), wr (n := v3 * 256) (by omega) (by omega), wr (n := v1 * 16777216 + v2 * 65536 + v3 * 256) (by omega) (by omega), wr (by omega) (by omega), tmod_pos (by omega)]
    exact ⟨_, _, _, rfl, Int.emod_nonneg _ (by omega), Int.emod_lt_of_pos _ h0, a4⟩
theorem new_l0 (b : List Int) (hl : b.length ≤ 140737488351232) (d : Nat) : ∀ (i : Nat) (h : Int), i + d = b.length → ∃ h', Ev (fun k => spec_l01New.l0 k b h (i : Int)) (b, 0, h') := by
  induction d with
  | zero =>
    intro i h hi
    refine ⟨h, Ev.step1 fun k => ?_⟩
    simp only [spec_l01New.l0]
    rw [if_neg (by omega)]
  | succ d ih =>
    intro i h hi
    by_cases c : (i : Int) < 4000
    · obtain ⟨h', hh⟩ := ih (i + 1) (Go.bits .and .i64 (wrap64 ((wrap64 ((wrap64 (h * 137)) + (wrap64 (rd b i)))) + 5)) 1073741823) (by omega)
      refine ⟨h', Ev.step (fun k => ?_) hh⟩
      simp only [spec_l01New.l0]
      rw [if_pos (by omega), if_pos c, if_pos (by omega), wrS (by omega)]
    · refine ⟨h, Ev.step1 fun k => ?_⟩
      simp only [spec_l01New.l0]
      rw [if_pos (by omega), if_neg c]
theorem new_some (b : List Int) (hl : b.length ≤ 140737488351232) : ∃ h, Ev (fun k => spec_l01New.f k b) (b, 0, h) := new_l0 b hl b.length 0 _ (by omega)
theorem bytes_l0 (b : List Int) (hl : b.length ≤ 140737488351232) (n : Nat) (hn : n ≤ 1000000) (d : Nat) : ∀ (j : Nat) (acc : List Int) (i h : Int), j + d = n → acc.length = j → Byt acc → At b i →
    ∃ xs i' h', Ev (fun k => spec_l01Bytes.l0 k (n : Int) acc (j : Int) b i h) (xs, i', h') ∧ xs.length = n ∧ Byt xs ∧ At b i' := by
  induction d with
  | zero =>
    intro j acc i h hj ha hb hi
    refine ⟨acc, i, h, Ev.step1 fun k => ?_, by omega, hb, hi⟩
    simp only [spec_l01Bytes.l0]
    rw [if_neg (by omega)]
  | succ d ih =>
    intro j acc i h hj ha hb hi
    obtain ⟨v, i', h', e, hv, hv2, hi'⟩ := byte_some b hl i h hi
    obtain ⟨xs, i2, h2, he, hx⟩ := ih (j + 1) (acc ++ [v % 256]) i' h' (by omega) (by simp; omega) (hb.app (Byt.one (by omega))) hi'
    refine ⟨xs, i2, h2, Ev.step (fun k => ?_) he, hx⟩
    simp only [spec_l01Bytes.l0]
    rw [if_pos (by omega), e]
    simp only [Option.bind_some]
    rw [if_pos (by omega), wrS (by omega)]
theorem bytes_some (b : List Int) (hl : b.length ≤ 140737488351232) (i h : Int) (hi : At b i) (m : Int) (hm : 0 ≤ m) (hm2 : m ≤ 100000) :
    ∃ xs i' h', Ev (fun k => spec_l01Bytes.f k b i h m) (xs, i', h') ∧ (xs.length : Int) ≤ m ∧ Byt xs ∧ At b i' := by
  unfold spec_l01Bytes.f
  obtain ⟨v, i1, h1, e, hv, hv2, hi1⟩ := below_some b hl i h (m + 1) hi (by omega) (by omega)
  obtain ⟨n, rfl⟩ := Int.eq_ofNat_of_zero_le hv
  obtain ⟨xs, i2, h2, he, hx, hb, hi2⟩ := bytes_l0 b hl n (by omega) n 0 [] i1 h1 (by omega) rfl Byt.nil hi1
  refine ⟨xs, i2, h2, ?_, by omega, hb, hi2⟩
  rw [wr (by omega) (by omega), e]
  simp only [Option.bind_some]
  exact he

/-! ### within -/
theorem within_eq (x lo hi : Int) : impl_within.f x lo hi = some (decide (lo ≤ x ∧ x ≤ hi)) := by
  unfold impl_within.f
  by_cases h : x ≥ lo
  · rw [if_pos h]; simp [h]
  · rw [if_neg h]; simp; omega

/-! ### quote -/
theorem l01Digit_eq {d : Int} (h : 0 ≤ d) (h2 : d < 16) : spec_l01Digit.f d = some (hex d) := by
  unfold spec_l01Digit.f hex
  by_cases c : d < 10
  · rw [if_pos c, if_pos c, wr (by omega) (by omega)]; congr 1; omega
  · rw [if_neg c, if_neg c, wr (n := 65 + d) (by omega) (by omega), wr (by omega) (by omega)]; congr 1; omega
theorem spec_q (s : ByteArray) (hs : s.size ≤ 1000000) (d : Nat) : ∀ (i : Nat) (acc : List Int), i + d = s.size → acc.length + 3 * d ≤ 4000000 →
    Ev (fun k => spec_Quote.l0 k s acc i) (strOfNums (acc ++ qs ((bytesOf s).drop i) ++ [34])) := by
  induction d with
  | zero =>
    intro i acc hi ha
    refine Ev.step1 fun k => ?_
    simp only [spec_Quote.l0]
    rw [if_neg (by omega), if_pos (by omega), List.drop_of_length_le (by rw [len_bytesOf]; omega), qs_nil, List.append_nil]
  | succ d ih =>
    intro i acc hi ha
    have hr := bt_range s i
    rw [drop_bytes (by omega), qs_cons]
    by_cases hp : 33 ≤ bt s i ∧ bt s i ≤ 126 ∧ bt s i ≠ 34 ∧ bt s i ≠ 37
    · refine Ev.step (f := fun k => spec_Quote.j1 k s acc i (bt s i) true) (fun k => ?_) (Ev.step (f := fun k => spec_Quote.l0 k s (acc ++ [bt s i]) ((i + 1 : Nat) : Int)) (fun k => ?_) ?_)
      · simp only [spec_Quote.l0]
        rw [if_pos (by omega), if_pos (by omega), if_pos (by omega), if_pos (by omega), if_neg (by omega), show (bt s i != 37) = true from bne_iff_ne.2 hp.2.2.2]
      · simp only [spec_Quote.j1]
        rw [if_pos trivial, if_pos (by omega), wrS (by omega)]
      · have := ih (i + 1) (acc ++ [bt s i]) (by omega) (by simp; omega)
        rw [show q1 (bt s i) = [bt s i] by unfold q1 plainB; rw [if_pos (decide_eq_true hp)]]
        simpa using this
    · refine Ev.step (f := fun k => spec_Quote.j1 k s acc i (bt s i) false) (fun k => ?_) (Ev.step (f := fun k => spec_Quote.l0 k s (acc ++ [37, hex (bt s i / 16), hex (bt s i % 16)]) ((i + 1 : Nat) : Int)) (fun k => ?_) ?_)
      · simp only [spec_Quote.l0]
        rw [if_pos (by omega), if_pos (by omega)]
        by_cases h1 : bt s i ≥ 33
        · rw [if_pos h1]
          by_cases h2 : bt s i ≤ 126
          · rw [if_pos h2]
            by_cases h3 : bt s i = 34
            · rw [if_pos h3]
            · rw [if_neg h3, show (bt s i != 37) = false by rw [bne_eq_false_iff_eq]; omega]
          · rw [if_neg h2]
        · rw [if_neg h1]
      · simp only [spec_Quote.j1]
        rw [if_neg (by decide), wr (n := bt s i) (by omega) (by omega), tdiv_pos (by omega), tmod_pos (by omega), wr (n := bt s i / 16) (by omega) (by omega), l01Digit_eq (by omega) (by omega), l01Digit_eq (by omega) (by omega)]
        simp only [Option.bind_some]
        rw [if_pos (by simp; omega), wrS (by omega)]
      · have := ih (i + 1) (acc ++ [37, hex (bt s i / 16), hex (bt s i % 16)]) (by omega) (by simp; omega)
        rw [show q1 (bt s i) = [37, hex (bt s i / 16), hex (bt s i % 16)] by unfold q1 plainB; rw [if_neg (by simpa using hp)]]
        simpa using this
theorem spec_Quote_ev (s : ByteArray) : Ev (fun k => spec_Quote.f k s) (quote s) := by
  unfold spec_Quote.f quote
  by_cases h : s.size > 4096
  · rw [if_pos h]; simp only [if_pos (show (s.size : Int) > 4096 by omega)]; exact Ev.now _
  · rw [if_neg h]; simp only [if_neg (show ¬ (s.size : Int) > 4096 by omega)]
    exact spec_q s (by omega) s.size 0 [34] (by omega) (by simp; omega)
theorem impl_q (s : ByteArray) (hs : s.size ≤ 1000000) (d : Nat) : ∀ (i : Nat) (acc : List Int), i + d = s.size → acc.length + 3 * d ≤ 4000000 →
    Ev (fun k => impl_Quote.l0 k s acc i) (strOfNums (acc ++ qs ((bytesOf s).drop i) ++ [34])) := by
  induction d with
  | zero =>
    intro i acc hi ha
    refine Ev.step1 fun k => ?_
    simp only [impl_Quote.l0]
    rw [if_neg (by omega), if_pos (by omega), List.drop_of_length_le (by rw [len_bytesOf]; omega), qs_nil, List.append_nil]
  | succ d ih =>
    intro i acc hi ha
    have hr := bt_range s i
    rw [drop_bytes (by omega), qs_cons]
    by_cases hp : 33 ≤ bt s i ∧ bt s i ≤ 126 ∧ bt s i ≠ 34 ∧ bt s i ≠ 37
    · refine Ev.step (f := fun k => impl_Quote.l0 k s (acc ++ [bt s i]) ((i + 1 : Nat) : Int)) (fun k => ?_) ?_
      · simp only [impl_Quote.l0]
        rw [if_pos (by omega), if_pos (by omega), wr (n := bt s i) (by omega) (by omega), within_eq]
        simp only [Option.bind_some]
        rw [if_pos (decide_eq_true (by omega)), if_neg (by omega), if_neg (by omega), if_pos (by omega), wrS (by omega)]
      · have := ih (i + 1) (acc ++ [bt s i]) (by omega) (by simp; omega)
        rw [show q1 (bt s i) = [bt s i] by unfold q1 plainB; rw [if_pos (decide_eq_true hp)]]
        simpa using this
    · refine Ev.step (f := fun k => impl_Quote.l0 k s (acc ++ [37, hex (bt s i / 16), hex (bt s i % 16)]) ((i + 1 : Nat) : Int)) (fun k => ?_) ?_
      · have e1 := hex_fig (d := bt s i / 16) (by omega) (by omega)
        have e2 := hex_fig (d := bt s i % 16) (by omega) (by omega)
        have e3 := and15 (b := bt s i) (by omega) (by omega)
        simp only [impl_Quote.l0]
        rw [if_pos (by omega), if_pos (by omega), wr (n := bt s i) (by omega) (by omega), within_eq]
        simp only [Option.bind_some, e1, e2, e3]
        have t1 : (0 ≤ bt s i / 16) := by omega
        have t2 : (bt s i / 16 < 16) := by omega
        have t3 : (0 ≤ bt s i % 16) := by omega
        have t4 : (bt s i % 16 < 16) := by omega
        have t5 : acc.length + [37, hex (bt s i / 16), hex (bt s i % 16)].length < 140737488355328 := by simp; omega
        rw [wrS (by omega)]
        simp only [if_pos t1, if_pos t2, if_pos t3, if_pos t4, if_pos t5]
        by_cases h1 : 33 ≤ bt s i ∧ bt s i ≤ 126
        · rw [if_pos (decide_eq_true h1)]
          by_cases h3 : bt s i = 34
          · rw [if_pos h3]
          · rw [if_neg h3, if_pos (by omega)]
        · rw [if_neg (by simpa using h1)]
      · have := ih (i + 1) (acc ++ [37, hex (bt s i / 16), hex (bt s i % 16)]) (by omega) (by simp; omega)
        rw [show q1 (bt s i) = [37, hex (bt s i / 16), hex (bt s i % 16)] by unfold q1 plainB; rw [if_neg (by simpa using hp)]]
        simpa using this
theorem impl_Quote_ev (s : ByteArray) : Ev (fun k => impl_Quote.f k s) (quote s) := by
  unfold impl_Quote.f quote
  by_cases h : s.size > 4096
  · rw [if_pos h]; simp only [if_pos (show (s.size : Int) > 4096 by omega)]; exact Ev.now _
  · rw [if_neg h]; simp only [if_neg (show ¬ (s.size : Int) > 4096 by omega)]
    exact impl_q s (by omega) s.size 0 [34] (by omega) (by simp; omega)

/-! ### unquote -/
/-- What a quoted text tells, read from one place on; it is judged by writing it again. -/
def uqEnd (s : ByteArray) (xs : List Int) : ByteArray × Bool := if quote (strOfNums xs) = s then (strOfNums xs, true) else (⟨#[]⟩, false)
theorem uq_quote_if (s : ByteArray) (xs : List Int) : (if (quote (strOfNums xs)).toList = s.toList then some (strOfNums xs, true) else some ((⟨#[]⟩ : ByteArray), false)) = some (uqEnd s xs) := by
  unfold uqEnd
  by_cases h : quote (strOfNums xs) = s
  · rw [if_pos (tl_inj.2 h), if_pos h]
  · rw [if_neg (fun e => h (tl_inj.1 e)), if_neg h]
/-- A figure's number, or none. -/
def unhex (b : Int) : Option Int := if 48 ≤ b ∧ b ≤ 57 then some (b - 48) else if 65 ≤ b ∧ b ≤ 70 then some (b - 55) else none
theorem unhex_hex {d : Int} (h : 0 ≤ d) (h2 : d < 16) : unhex (hex d) = some d := by
  unfold unhex hex
  by_cases c : d < 10
  · rw [if_pos c, if_pos (by omega)]; congr 1; omega
  · rw [if_neg c, if_neg (by omega), if_pos (by omega)]; congr 1; omega
theorem hex_unhex {b d : Int} (h : unhex b = some d) : 0 ≤ d ∧ d < 16 ∧ hex d = b := by
  unfold unhex at h
  split at h
  · injection h with h; subst h; unfold hex; rw [if_pos (by omega)]; omega
  · split at h
    · injection h with h; subst h; unfold hex; rw [if_neg (by omega)]; omega
    · cases h
theorem figure_l0 (b : Int) (d : Nat) : ∀ i : Nat, i + d = 16 → (∀ j : Nat, j < i → hex (j : Int) ≠ b) → Ev (fun k => impl_figure.l0 k b (i : Int)) ((unhex b).getD (-1)) := by
  induction d with
  | zero =>
    intro i hi hj
    have : unhex b = none := by
      cases e : unhex b with
      | none => rfl
      | some q =>
        have h := hex_unhex e
        exact absurd (by rw [Int.toNat_of_nonneg h.1]; exact h.2.2) (hj q.toNat (by omega))
    rw [this]
    refine Ev.step1 fun k => ?_
    simp only [impl_figure.l0]
    rw [if_neg (by omega)]
    rfl
  | succ d ih =>
    intro i hi hj
    by_cases c : hex (i : Int) = b
    · have : unhex b = some (i : Int) := by rw [← c]; exact unhex_hex (by omega) (by omega)
      rw [this]
      refine Ev.step1 fun k => ?_
      simp only [impl_figure.l0]
      rw [if_pos (by omega), if_pos (by omega), hex_fig (by omega) (by omega), if_pos c]
      rfl
    · refine Ev.step (f := fun k => impl_figure.l0 k b ((i + 1 : Nat) : Int)) (fun k => ?_) (ih (i + 1) (by omega) (fun j h => by
        by_cases e : j = i
        · rw [e]; exact c
        · exact hj j (by omega)))
      simp only [impl_figure.l0]
      rw [if_pos (by omega), if_pos (by omega), hex_fig (by omega) (by omega), if_neg c, wrS (by omega)]
theorem impl_figure_ev (b : Int) : Ev (fun k => impl_figure.f k b) ((unhex b).getD (-1)) := figure_l0 b 16 0 (by omega) (fun j h => by omega)

/-! ### implUnquote -/
theorem impl_uq_end (s : ByteArray) (acc : List Int) (h : 1 ≤ s.size) (i : Int) (hi : ¬ i < wrap64 ((s.size : Int) - 1)) : Ev (fun k => impl_Unquote.l0 k s acc i) (uqEnd s acc) := by
  refine Ev.step (f := fun k => (impl_Quote.f k (strOfNums acc)).bind fun t => if t.toList = s.toList then some (strOfNums acc, true) else some ((⟨#[]⟩ : ByteArray), false)) (fun k => ?_) (Ev.bind (impl_Quote_ev _) (Ev.one (uq_quote_if s acc)))
  simp only [impl_Unquote.l0]
  rw [if_neg hi, if_neg (fun e => by have := tl_nil.1 e; omega)]
theorem impl_uq (xs : List Int) (hb : Byt xs) (hl : xs.length ≤ 4096) : ∀ (rest acc : List Int), acc ++ rest = xs →
    Ev (fun k => impl_Unquote.l0 k (strOfNums (wrapQ xs)) acc ((1 + (qs acc).length : Nat) : Int)) (strOfNums xs, true)
  | [], acc, he => by
    rw [List.append_nil] at he
    subst he
    have := impl_uq_end (strOfNums (wrapQ acc)) acc (by rw [size_son, wrapQ_len]; omega) ((1 + (qs acc).length : Nat) : Int) (by rw [size_son, wrapQ_len]; have := qs_len acc; rw [wr (by omega) (by omega)]; omega)
    unfold uqEnd at this
    rw [if_pos (quote_son hb hl)] at this
    exact this
  | b :: rest, acc, he => by
    have hn := qs_len acc
    have hn2 := qs_len rest
    have hlen : acc.length + rest.length + 1 = xs.length := by rw [← he]; simp; omega
    have hbb : 0 ≤ b ∧ b < 256 := hb b (by rw [← he]; simp)
    have hL : wrapQ xs = ([34] ++ qs acc) ++ (q1 b ++ (qs rest ++ [34])) := by rw [← he]; simp [wrapQ, qs_app, qs_cons]
    have hsz : (wrapQ xs).length = 1 + (qs acc).length + (q1 b).length + (qs rest).length + 1 := by rw [hL]; simp; omega
    have hB := wrapQ_byt hb
    by_cases hp : plainB b = true
    · have hq := q1_plain hp
      rw [hq] at hsz hL
      simp at hsz
      refine Ev.step (f := fun k => impl_Unquote.l0 k (strOfNums (wrapQ xs)) (acc ++ [b]) ((1 + (qs (acc ++ [b])).length : Nat) : Int)) (fun k => ?_) (impl_uq xs hb hl rest (acc ++ [b]) (by rw [List.append_assoc]; exact he))
      simp only [impl_Unquote.l0]
      have hr : bt (strOfNums (wrapQ xs)) ((1 + (qs acc).length : Nat) : Int) = b := by
        rw [bt_son hB, hL]; exact rd_mid _ _ _ (by simp; omega)
      rw [if_pos (by rw [size_son, wr (by omega) (by omega)]; omega), if_pos (by omega), if_pos (by rw [size_son]; omega), hr, if_neg (plain_ne hp), if_pos (by omega), wrS (by omega), show (qs (acc ++ [b])).length = (qs acc).length + 1 by rw [qs_app, qs_cons, hq]; simp [qs]]
      rfl
    · have hq := q1_other hp
      rw [hq] at hsz hL
      simp at hsz
      refine Ev.step (f := fun k => (impl_figure.f k (hex (b / 16))).bind fun x => (impl_figure.f k (hex (b % 16))).bind fun y => if x < 0 then some ((⟨#[]⟩ : ByteArray), false) else if y < 0 then some ((⟨#[]⟩ : ByteArray), false) else impl_Unquote.l0 k (strOfNums (wrapQ xs)) (acc ++ [(wrap64 (wrap64 (16 * x) + y)) % 256]) ((1 + (qs (acc ++ [b])).length : Nat) : Int)) (fun k => ?_) ?_
      · simp only [impl_Unquote.l0]
        have hr : bt (strOfNums (wrapQ xs)) ((1 + (qs acc).length : Nat) : Int) = 37 := by
          rw [bt_son hB, hL]; exact rd_mid _ _ _ (by simp; omega)
        have hr1 : bt (strOfNums (wrapQ xs)) ((1 + (qs acc).length : Nat) + 1 : Int) = hex (b / 16) := by
          rw [bt_son hB, hL, show ([34] ++ qs acc ++ ([37, hex (b / 16), hex (b % 16)] ++ (qs rest ++ [34]))) = ([34] ++ qs acc ++ [37]) ++ hex (b / 16) :: (hex (b % 16) :: (qs rest ++ [34])) by simp]
          exact rd_mid _ _ _ (by simp; omega)
        have hr2 : bt (strOfNums (wrapQ xs)) ((1 + (qs acc).length : Nat) + 2 : Int) = hex (b % 16) := by
          rw [bt_son hB, hL, show ([34] ++ qs acc ++ ([37, hex (b / 16), hex (b % 16)] ++ (qs rest ++ [34]))) = ([34] ++ qs acc ++ [37, hex (b / 16)]) ++ hex (b % 16) :: (qs rest ++ [34]) by simp]
          exact rd_mid _ _ _ (by simp; omega)
        rw [if_pos (by rw [size_son, wr (by omega) (by omega)]; omega), if_pos (by omega), if_pos (by rw [size_son]; omega), hr, if_pos rfl,
          wr (n := ((1 + (qs acc).length : Nat) : Int) + 2) (by omega) (by omega), wr (n := ((1 + (qs acc).length : Nat) : Int) + 1) (by omega) (by omega), hr1, hr2,
          if_neg (by rw [size_son, wr (by omega) (by omega)]; omega), if_pos (by omega), if_pos (by rw [size_son]; omega)]
        have p1 : 0 ≤ ((1 + (qs acc).length : Nat) : Int) + 2 := by omega
        have p2 : ((1 + (qs acc).length : Nat) : Int) + 2 < ((strOfNums (wrapQ xs)).size : Int) := by rw [size_son]; omega
        have p3 : acc.length < 140737488355328 := by omega
        have e3 : wrap64 (((1 + (qs acc).length : Nat) : Int) + 2 + 1) = ((1 + (qs (acc ++ [b])).length : Nat) : Int) := by
          rw [wr (by omega) (by omega), show (qs (acc ++ [b])).length = (qs acc).length + 3 by rw [qs_app, qs_cons, hq]; simp [qs]]
          omega
        simp only [if_pos p1, if_pos p2, if_pos p3, e3]
      · have f1 := impl_figure_ev (hex (b / 16))
        have f2 := impl_figure_ev (hex (b % 16))
        rw [unhex_hex (by omega) (by omega)] at f1 f2
        refine Ev.bind f1 (Ev.bind f2 ?_)
        simp only [Option.getD_some]
        simp only [if_neg (show ¬ b / 16 < 0 by omega), if_neg (show ¬ b % 16 < 0 by omega)]
        rw [wr (n := 16 * (b / 16)) (by omega) (by omega), wr (by omega) (by omega), show (16 * (b / 16) + b % 16) % 256 = b by omega]
        exact impl_uq xs hb hl rest (acc ++ [b]) (by rw [List.append_assoc]; exact he)
/-- What comes of any text: nothing, or what is written as that text. -/
def uqGood (s : ByteArray) (r : ByteArray × Bool) : Prop := r = (⟨#[]⟩, false) ∨ (r.2 = true ∧ quote r.1 = s)
theorem uqEnd_good (s : ByteArray) (xs : List Int) : uqGood s (uqEnd s xs) := by
  unfold uqEnd
  by_cases h : quote (strOfNums xs) = s
  · rw [if_pos h]; exact .inr ⟨rfl, h⟩
  · rw [if_neg h]; exact .inl rfl
theorem impl_uq_any (s : ByteArray) (hs : s.size ≤ 140737488351232) (h1 : 1 ≤ s.size) (d : Nat) : ∀ (i : Nat) (acc : List Int), s.size ≤ i + d → 1 ≤ i → acc.length ≤ i → ∃ r, Ev (fun k => impl_Unquote.l0 k s acc (i : Int)) r ∧ uqGood s r := by
  have hw : wrap64 ((s.size : Int) - 1) = (s.size : Int) - 1 := wr (by omega) (by omega)
  induction d with
  | zero =>
    intro i acc hi _ ha
    exact ⟨_, impl_uq_end s acc h1 i (by rw [hw]; omega), uqEnd_good _ _⟩
  | succ d ih =>
    intro i acc hi hi1 ha
    by_cases c : (i : Int) < (s.size : Int) - 1
    · by_cases c2 : bt s (i : Int) = 37
      · by_cases c3 : (i : Int) + 2 ≥ (s.size : Int) - 1
        · refine ⟨_, Ev.step1 fun k => ?_, .inl rfl⟩
          simp only [impl_Unquote.l0]
          rw [hw, if_pos c, if_pos (by omega), if_pos (by omega), if_pos c2, wr (n := (i : Int) + 2) (by omega) (by omega), if_pos c3]
        · obtain ⟨x, f1⟩ : ∃ x, Ev (fun k => impl_figure.f k (bt s ((i : Int) + 1))) x := ⟨_, impl_figure_ev _⟩
          obtain ⟨y, f2⟩ : ∃ y, Ev (fun k => impl_figure.f k (bt s ((i : Int) + 2))) y := ⟨_, impl_figure_ev _⟩
          obtain ⟨r, hr, hg⟩ := ih (i + 3) (acc ++ [(wrap64 (wrap64 (16 * x) + y)) % 256]) (by omega) (by omega) (by simp; omega)
          have key : ∀ k, impl_Unquote.l0 (k + 1) s acc (i : Int) = (impl_figure.f k (bt s ((i : Int) + 1))).bind fun x => (impl_figure.f k (bt s ((i : Int) + 2))).bind fun y => if x < 0 then some ((⟨#[]⟩ : ByteArray), false) else if y < 0 then some ((⟨#[]⟩ : ByteArray), false) else impl_Unquote.l0 k s (acc ++ [(wrap64 (wrap64 (16 * x) + y)) % 256]) ((i + 3 : Nat) : Int) := by
            intro k
            simp only [impl_Unquote.l0]
            rw [hw, if_pos c, if_pos (by omega), if_pos (by omega), if_pos c2, wr (n := (i : Int) + 2) (by omega) (by omega), wr (n := (i : Int) + 1) (by omega) (by omega), if_neg c3, if_pos (by omega), if_pos (by omega)]
            have p1 : 0 ≤ (i : Int) + 2 := by omega
            have p2 : (i : Int) + 2 < (s.size : Int) := by omega
            have p3 : acc.length < 140737488355328 := by omega
            have e3 : wrap64 ((i : Int) + 2 + 1) = ((i + 3 : Nat) : Int) := by rw [wr (by omega) (by omega)]; omega
            simp only [if_pos p1, if_pos p2, if_pos p3, e3]
          by_cases hx : x < 0
          · refine ⟨(⟨#[]⟩, false), Ev.step key (Ev.bind f1 (Ev.bind f2 ?_)), .inl rfl⟩
            simp only [if_pos hx]
            exact Ev.now _
          · by_cases hy : y < 0
            · refine ⟨(⟨#[]⟩, false), Ev.step key (Ev.bind f1 (Ev.bind f2 ?_)), .inl rfl⟩
              simp only [if_neg hx, if_pos hy]
              exact Ev.now _
            · refine ⟨r, Ev.step key (Ev.bind f1 (Ev.bind f2 ?_)), hg⟩
              simp only [if_neg hx, if_neg hy]
              exact hr
      · obtain ⟨r, hr, hg⟩ := ih (i + 1) (acc ++ [bt s (i : Int)]) (by omega) (by omega) (by simp; omega)
        refine ⟨r, Ev.step (fun k => ?_) hr, hg⟩
        simp only [impl_Unquote.l0]
        rw [hw, if_pos c, if_pos (by omega), if_pos (by omega), if_neg c2, if_pos (by omega), wrS (by omega)]
    · exact ⟨_, impl_uq_end s acc h1 i (by rw [hw]; exact c), uqEnd_good _ _⟩
open Classical in
/-- What a text tells, if it is one that is written so. -/
noncomputable def unquoteOf (s : ByteArray) : ByteArray × Bool := if h : ∃ x : ByteArray, quote x = s ∧ 1 ≤ s.size then (Classical.choose h, true) else (⟨#[]⟩, false)
theorem quote_inj_core (s : ByteArray) (r : ByteArray × Bool) (hg : uqGood s r) (h1 : 1 ≤ s.size) (hA : ∀ xs : List Int, Byt xs → xs.length ≤ 4096 → s = strOfNums (wrapQ xs) → r = (strOfNums xs, true)) : r = unquoteOf s := by
  unfold unquoteOf
  split
  · rename_i h
    obtain ⟨hq, _⟩ := Classical.choose_spec h
    generalize Classical.choose h = x at hq
    rcases quote_size x with e | ⟨e, hl⟩
    · rw [hq] at e; omega
    · have := hA (bytesOf x) (bytesOf_Byt x) (by rw [len_bytesOf]; exact hl) (by rw [← hq, e]; rfl)
      rw [this, son_bytesOf]
  · rename_i h
    rcases hg with e | ⟨_, e⟩
    · exact e
    · exact absurd ⟨_, e, h1⟩ h
theorem Ev.uniq {α : Type} {g : Nat → Option α} {a b : α} (h : Ev g a) (k : Ev g b) : a = b := by
  obtain ⟨K, h⟩ := h
  obtain ⟨K', k⟩ := k
  have h1 := h (max K K') (by omega)
  have h2 := k (max K K') (by omega)
  rw [h1] at h2
  injection h2
theorem impl_Unquote_ev (s : ByteArray) (hs : s.size ≤ 140737488351232) : Ev (fun k => impl_Unquote.f k s) (unquoteOf s) := by
  unfold impl_Unquote.f
  by_cases h1 : 1 ≤ s.size
  · obtain ⟨r, hr, hg⟩ := impl_uq_any s hs h1 s.size 1 [] (by omega) (by omega) (by simp)
    have : r = unquoteOf s := quote_inj_core s r hg h1 (fun xs hb hl e => by
      have h := impl_uq xs hb hl xs [] rfl
      rw [← e] at h
      exact Ev.uniq hr (by simpa [qs] using h))
    rw [← this]
    exact hr
  · have : unquoteOf s = (⟨#[]⟩, false) := by unfold unquoteOf; rw [dif_neg (fun f => by obtain ⟨_, _, h⟩ := f; exact h1 h)]
    rw [this]
    refine Ev.step1 fun k => ?_
    simp only [impl_Unquote.l0]
    rw [if_neg (by rw [wr (by omega) (by omega)]; omega), if_pos (tl_nil.2 (by omega))]

/-! ### law_FnQuote -/
theorem drawQuote_some (l : List Int) (hl : l.length ≤ 140737488351232) : ∃ s : ByteArray, Ev (fun k => spec_DrawQuote.f k l) s ∧ s.size ≤ 5000 := by
  unfold spec_DrawQuote.f
  obtain ⟨h0, e0⟩ := new_some l hl
  obtain ⟨xs, i1, h1, e1, hx, hb, a1⟩ := bytes_some l hl 0 h0 ⟨by omega, by omega⟩ 12 (by omega) (by omega)
  obtain ⟨v2, i2, h2, e2, p2, q2, a2⟩ := below_some l hl i1 h1 3 a1 (by omega) (by omega)
  have last : ∀ (s : ByteArray) (i h : Int), At l i → s.size ≤ 5000 → ∃ s' : ByteArray, Ev (fun k => spec_DrawQuote.j0 k s l i h) s' ∧ s'.size ≤ 5000 := by
    intro s i h ha hs
    obtain ⟨v4, i4, h4, e4, p4, q4, a4⟩ := below_some l hl i h 40 ha (by omega) (by omega)
    by_cases c : v4 = 0
    · obtain ⟨v5, i5, h5, e5, p5, q5, a5⟩ := below_some l hl i4 h4 2 a4 (by omega) (by omega)
      refine ⟨strOfNums (List.replicate (4096 + v5).toNat 0), Ev.step1 fun k => ?_, by rw [size_son, List.length_replicate]; omega⟩
      simp only [spec_DrawQuote.j0]
      rw [e4]; simp only [Option.bind_some]
      rw [if_pos c, e5]; simp only [Option.bind_some]
      rw [wr (by omega) (by omega), if_pos (by omega), if_pos (by omega)]
    · refine ⟨s, Ev.step1 fun k => ?_, hs⟩
      simp only [spec_DrawQuote.j0]
      rw [e4]; simp only [Option.bind_some]
      rw [if_neg c]
  by_cases c : v2 = 0
  · obtain ⟨v3, i3, h3, e3, p3, q3, a3⟩ := below_some l hl i2 h2 7 a2 (by omega) (by omega)
    obtain ⟨s', es, hs⟩ := last (rdOf ByteArray.empty ([(⟨#[]⟩ : ByteArray), (⟨#[97, 98, 99]⟩ : ByteArray), (⟨#[97, 37, 98]⟩ : ByteArray), (⟨#[34]⟩ : ByteArray), (⟨#[126, 32]⟩ : ByteArray), (⟨#[10]⟩ : ByteArray), (⟨#[37, 52, 49]⟩ : ByteArray)] : List ByteArray) v3) i3 h3 a3 (by
      obtain ⟨n, rfl⟩ := Int.eq_ofNat_of_zero_le p3
      rw [rdOf_nat]
      have : n = 0 ∨ n = 1 ∨ n = 2 ∨ n = 3 ∨ n = 4 ∨ n = 5 ∨ n = 6 := by omega
      rcases this with rfl | rfl | rfl | rfl | rfl | rfl | rfl <;> decide)
    refine ⟨s', Ev.bind e0 (Ev.bind e1 ?_), hs⟩
    rw [e2]; simp only [Option.bind_some, if_pos c]
    rw [e3]; simp only [Option.bind_some, if_pos p3]
    simp only [if_pos (show v3 < (([(⟨#[]⟩ : ByteArray), (⟨#[97, 98, 99]⟩ : ByteArray), (⟨#[97, 37, 98]⟩ : ByteArray), (⟨#[34]⟩ : ByteArray), (⟨#[126, 32]⟩ : ByteArray), (⟨#[10]⟩ : ByteArray), (⟨#[37, 52, 49]⟩ : ByteArray)] : List ByteArray).length : Int) from q3)]
    exact es
  · obtain ⟨s', es, hs⟩ := last (strOfNums xs) i2 h2 a2 (by rw [size_son]; omega)
    refine ⟨s', Ev.bind e0 (Ev.bind e1 ?_), hs⟩
    rw [e2]; simp only [Option.bind_some, if_neg c]
    exact es
/-- A byte of a quoted text. -/
theorem wrapQ_seen {xs : List Int} (hb : Byt xs) : ∀ x ∈ wrapQ xs, 32 < x ∧ x ≤ 126 := by
  intro x hx
  have hq : ∀ x ∈ qs xs, 32 < x ∧ x ≤ 126 := by
    intro x hx
    unfold qs at hx
    obtain ⟨b, hb1, hb2⟩ := List.mem_flatMap.1 hx
    have := hb b hb1
    by_cases hp : plainB b = true
    · rw [q1_plain hp] at hb2
      rw [List.mem_singleton.1 hb2]
      unfold plainB at hp
      have := of_decide_eq_true hp
      omega
    · rw [q1_other hp] at hb2
      have h3 := hex_byt (d := b / 16) (by omega) (by omega)
      have h4 := hex_byt (d := b % 16) (by omega) (by omega)
      simp only [List.mem_cons, List.not_mem_nil, or_false] at hb2
      omega
  unfold wrapQ at hx
  simp only [List.mem_append, List.mem_singleton] at hx
  rcases hx with (rfl | hx) | rfl
  · omega
  · exact hq x hx
  · omega
theorem quote_loop (s q : ByteArray) (hq : q.size ≤ 1000000) (hall : ∀ i : Nat, i < q.size → 32 < bt q i ∧ bt q i ≤ 126) {r : Bool}
    (hend : Ev (fun k => (impl_Unquote.f k q).bind fun t => (if (t.2 == (q.toList != ([] : List UInt8))) = true then (if t.2 = true then (some (t.1.toList == s.toList)) else (some true)) else (some false))) r) (d : Nat) :
    ∀ i : Nat, i + d = q.size → Ev (fun k => laws_FnQuote.l0 k s q (i : Int)) r := by
  induction d with
  | zero =>
    intro i hi
    refine Ev.step (fun k => ?_) hend
    simp only [laws_FnQuote.l0]
    rw [if_neg (by omega)]
  | succ d ih =>
    intro i hi
    have := hall i (by omega)
    refine Ev.step (fun k => ?_) (ih (i + 1) (by omega))
    simp only [laws_FnQuote.l0]
    rw [if_pos (by omega), if_pos (by omega), if_neg (by omega), if_neg (by omega), wrS (by omega)]
theorem FnQuote (l0 : List (Int)) (g0 : G22 l0) : ∃ k, laws_FnQuote.f k l0 = some true := by
  have hl : l0.length ≤ 140737488351232 := by have := g0.1; omega
  refine Ev.rounds ?_
  unfold laws_FnQuote.f
  by_cases c : (l0.length : Int) > 1048576
  · simp only [if_pos c]; exact Ev.now _
  · simp only [if_neg c]
    obtain ⟨s, es, hs⟩ := drawQuote_some l0 hl
    refine Ev.bind es (Ev.bind (impl_Quote_ev s) (Ev.bind (spec_Quote_ev s) ?_))
    simp only [if_true]
    by_cases h : s.size ≤ 4096
    · have hb := bytesOf_Byt s
      have hn := qs_len (bytesOf s)
      rw [len_bytesOf] at hn
      have hq : quote s = strOfNums (wrapQ (bytesOf s)) := by rw [← quote_son hb (by rw [len_bytesOf]; exact h), son_bytesOf]
      have hB := wrapQ_byt hb
      have hu : Ev (fun k => impl_Unquote.f k (quote s)) (s, true) := by
        have := impl_uq (bytesOf s) hb (by rw [len_bytesOf]; exact h) (bytesOf s) [] rfl
        rw [son_bytesOf, ← hq] at this
        exact (by simpa [qs] using this : Ev (fun k => impl_Unquote.l0 k (quote s) [] 1) (s, true))
      refine quote_loop s (quote s) (by rw [hq, size_son, wrapQ_len]; omega) (fun i hi => ?_) (Ev.bind hu (Ev.one ?_)) (quote s).size 0 (by omega)
      · rw [hq] at hi ⊢
        rw [bt_son hB, rd_nat (by rw [size_son] at hi; exact hi)]
        exact wrapQ_seen hb _ (List.getElem_mem _)
      · have hne : ((quote s).toList != ([] : List UInt8)) = true := bne_iff_ne.2 (fun e => by have := tl_nil.1 e; rw [hq, size_son, wrapQ_len] at this; omega)
        rw [hne]
        simp
    · have hq : quote s = ⟨#[]⟩ := by unfold quote; rw [if_pos (by omega)]
      have hu := impl_Unquote_ev (quote s) (by rw [hq]; exact Nat.zero_le _)
      have e : unquoteOf (quote s) = (⟨#[]⟩, false) := by unfold unquoteOf; rw [dif_neg]; rintro ⟨_, _, h1⟩; rw [hq] at h1; exact absurd h1 (by decide)
      rw [e] at hu
      refine quote_loop s (quote s) (by rw [hq]; decide) (fun i hi => by rw [hq] at hi; exact absurd hi (Nat.not_lt_zero _)) (Ev.bind hu (Ev.one ?_)) (quote s).size 0 (by omega)
      rw [hq]
      rw [show ((⟨#[]⟩ : ByteArray).toList != ([] : List UInt8)) = false by rw [tl_empty]; rfl]
      rfl

end Go.Proofs.Ytnleeeccpepekaa.Pure
