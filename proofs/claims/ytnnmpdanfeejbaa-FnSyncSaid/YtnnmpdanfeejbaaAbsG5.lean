import Derived.Test.YtnnmpdanfeejbaaAbsG4
/- The draws: keys and values. Weak contracts. -/
namespace Go.Proofs.Ytnnmpdanfeejbaa.Abs
open Go Go.Proofs
set_option maxRecDepth 10000
set_option linter.unusedVariables false
set_option linter.unusedSimpArgs false
def StrP (b : List UInt8) (m : Nat) (r : AV) (out : List (Option Ob)) : Prop := (∃ s : ByteArray, r = .c (.v (.string s)) ∧ s.size ≤ m) ∧ CurP b out
def strsB (m : Nat) (L : List (List CV)) : Bool := L.all fun e => match e with
  | [.v (.string s)] => decide (s.size ≤ m)
  | _ => false
theorem strs_get {m : Nat} {L : List (List CV)} (h : strsB m L = true) {k : Nat} (hk : k < L.length) : ∃ s : ByteArray, L[k]? = some [.v (.string s)] ∧ s.size ≤ m := by
  have h1 := List.all_eq_true.1 h _ (List.getElem_mem hk)
  rw [List.getElem?_eq_getElem hk]
  generalize L[k] = e at h1
  split at h1
  · rename_i s; exact ⟨s, rfl, of_decide_eq_true h1⟩
  · cases h1
theorem rep16 {α : Type} (x : α) : List.replicate 16 x = [x, x, x, x, x, x, x, x, x, x, x, x, x, x, x, x] := rfl
def intsB (L : List (List CV)) : Bool := L.all fun e => match e with
  | [.v (.int .i64 n)] => decide (-9223372036854775808 ≤ n ∧ n ≤ 9223372036854775807)
  | _ => false
theorem ints_get {L : List (List CV)} (h : intsB L = true) {k : Nat} (hk : k < L.length) : ∃ n : Int, L[k]? = some [.v (.int .i64 n)] ∧ -9223372036854775808 ≤ n ∧ n ≤ 9223372036854775807 := by
  have h1 := List.all_eq_true.1 h _ (List.getElem_mem hk)
  rw [List.getElem?_eq_getElem hk]
  generalize L[k] = e at h1
  split at h1
  · rename_i s; exact ⟨s, rfl, of_decide_eq_true h1⟩
  · cases h1
theorem specNumText_ok : ∀ (k n : Nat), n < 10 ^ (k + 1) → k ≤ 10 → CallOk Try.prog 168 [] [In n] (fun r out => (∃ s : ByteArray, r = .c (.v (.string s)) ∧ s.size ≤ k + 1) ∧ out = []) := by
  intro k
  induction k with
  | zero =>
    intro n hn hk
    have hn : n < 10 := by simpa using hn
    refine callOk_z (np := 0) {} mixed Try.func168 (by rfl) Try.ntmps168 Try.results168 (by rfl) (Nat.le_of_ble_eq_true rfl) rfl rfl rfl (vc ?_)
    refine callq_of false [] (specNum_ok n) rfl trivial (vc trivial) ?_
    rintro r out ⟨rfl, rfl⟩
    refine vc4 (by simp) (by simp) (by simp) ?_
    refine brB_intro (fun h => by simp at h; omega) (fun h => ?_)
    refine brB_intro (fun h1 => ?_) (fun h1 => by simp at h1; omega)
    exact EndQ.closed (.v _) ⟨⟨_, rfl, by simp [ByteArray.size]⟩, rfl⟩
  | succ k ih =>
    intro n hn hk
    have hn : n < 10 ^ (k + 2) := hn
    have hp : 10 ^ (k + 2) ≤ 10 ^ 12 := Nat.pow_le_pow_right (by omega) (by omega)
    have hp12 : (10 : Nat) ^ 12 = 1000000000000 := by decide
    refine callOk_z (np := 0) {} mixed Try.func168 (by rfl) Try.ntmps168 Try.results168 (by rfl) (Nat.le_of_ble_eq_true rfl) rfl rfl rfl (vc ?_)
    refine callq_of false [] (specNum_ok n) rfl trivial (vc trivial) ?_
    rintro r out ⟨rfl, rfl⟩
    refine vc4 (by simp) (by simp) (by simp) ?_
    refine brB_intro (fun h => by simp at h; omega) (fun h => ?_)
    refine brB_intro (fun h1 => ?_) (fun h1 => ?_)
    · exact EndQ.closed (.v _) ⟨⟨_, rfl, by simp [ByteArray.size]⟩, rfl⟩
    refine drawQ_of false (by rfl) (by simp) (vc ?_)
    rw [show ((n : Nat) : Int).tdiv 10 = ((n / 10 : Nat) : Int) from rfl, w64 _ (by omega)]
    have hd : n / 10 < 10 ^ (k + 1) := by rw [Nat.div_lt_iff_lt_mul (by omega)]; rw [Nat.pow_succ] at hn; exact hn
    refine calld_of [] false [] (ih (n / 10) hd (by omega)) rfl trivial (vc trivial) (by rfl) ⟨.c (.v (.string ⟨#[]⟩)), [], ⟨_, rfl, by simp [ByteArray.size]⟩, rfl⟩ ?_
    rintro r out ⟨⟨s, rfl, hs⟩, rfl⟩
    refine ⟨by simp, by simp, by simp, vc ?_⟩
    refine ⟨rfl, ?_⟩
    have h1 : ∀ x : UInt8, (⟨#[x]⟩ : ByteArray).size = 1 := fun _ => rfl
    rw [if_pos (by rw [h1]; omega), Option.bind_some]
    refine vc ?_
    exact EndQ.closed (.v _) ⟨⟨_, rfl, by rw [ByteArray.size_append, h1]; omega⟩, rfl⟩
theorem l02Key_ok (b : List UInt8) (hb : b.length ≤ 2^40) (i0 : Nat) (g0 : Int) (hi0 : i0 ≤ b.length) : CallOk Try.prog 157 [curO b i0 g0] [.pt 1 0 0] (StrP b 16) := by
  unfold curO
  refine callOk_z (np := 1) {} mixed Try.func157 (by rfl) Try.ntmps157 Try.results157 (by rfl) (Nat.le_of_ble_eq_true rfl) rfl rfl rfl (vc ?_)
  refine callq_of false [1] (show CallOk _ _ [.box 179 [Rw (eB b), In i0, In g0]] _ _ from l01Below_ok b hb i0 g0 hi0 20 (by omega)) rfl (vc trivial) (vc trivial) ?_
  rintro r out ⟨⟨x1, rfl, y1, z1⟩, i1, g1, hi1, rfl⟩
  unfold curO
  refine vc4 (by simp) (by simp) (by simp) ?_
  refine brB_intro (fun h1 => ?_) (fun h1 => ?_)
  · have h1 : x1 < 16 := by simpa using h1
    obtain ⟨n1, rfl⟩ : ∃ n : Nat, x1 = n := ⟨x1.toNat, by omega⟩
    rw [rep16]
    refine vc ?_
    rw [show List.range 16 = [0, 1, 2, 3, 4, 5, 6, 7, 8, 9, 10, 11, 12, 13, 14, 15] from rfl]
    refine vc ?_
    refine ⟨by omega, ?_⟩
    obtain ⟨s, hs, hsz⟩ := strs_get (m := 16) (L := [[CV.v (.string ⟨#[97]⟩)], [CV.v (.string ⟨#[98]⟩)], [CV.v (.string ⟨#[99]⟩)], [CV.v (.string ⟨#[100]⟩)], [CV.v (.string ⟨#[101]⟩)], [CV.v (.string ⟨#[102]⟩)], [CV.v (.string ⟨#[103]⟩)], [CV.v (.string ⟨#[104]⟩)], [CV.v (.string ⟨#[107]⟩)], [CV.v (.string ⟨#[109]⟩)], [CV.v (.string ⟨#[112]⟩)], [CV.v (.string ⟨#[113]⟩)], [CV.v (.string ⟨#[97, 97]⟩)], [CV.v (.string ⟨#[97, 98]⟩)], [CV.v (.string ⟨#[120]⟩)], [CV.v (.string ⟨#[121]⟩)]]) (by rfl) (k := n1) (by show n1 < 16; omega)
    rw [hs]
    refine vc ?_
    exact endQ_of [] (.c (.v (.string s))) [some (.box 179 [Rw (eB b), In i1, In g1])] (by rfl) (vc trivial) (vc trivial) ⟨⟨_, rfl, hsz⟩, i1, g1, hi1, rfl⟩
  refine brB_intro (fun h2 => ?_) (fun h2 => ?_)
  · exact endQ_of [] (.c (.v (.string ⟨#[0]⟩))) [some (.box 179 [Rw (eB b), In i1, In g1])] (by rfl) (vc trivial) (vc trivial) ⟨⟨_, rfl, by simp [ByteArray.size]⟩, i1, g1, hi1, rfl⟩
  refine brB_intro (fun h3 => ?_) (fun h3 => ?_)
  · exact endQ_of [] (.c (.v (.string ⟨#[122, 122, 122, 122, 122, 122, 122, 122, 122, 122, 122, 122, 122, 122, 122, 122]⟩))) [some (.box 179 [Rw (eB b), In i1, In g1])] (by rfl) (vc trivial) (vc trivial) ⟨⟨_, rfl, by simp [ByteArray.size]⟩, i1, g1, hi1, rfl⟩
  refine callq_of false [1] (show CallOk _ _ [.box 179 [Rw (eB b), In i1, In g1]] _ _ from l01Below_ok b hb i1 g1 hi1 30 (by omega)) rfl (vc trivial) (vc trivial) ?_
  rintro r out ⟨⟨x2, rfl, y2, z2⟩, i2, g2, hi2, rfl⟩
  unfold curO
  refine vc4 (by simp) (by simp) (by simp) ?_
  obtain ⟨n2, rfl⟩ : ∃ n : Nat, x2 = n := ⟨x2.toNat, by omega⟩
  refine callq_of false [] (specNumText_ok 2 n2 (by omega) (by omega)) rfl trivial (vc trivial) ?_
  rintro r out ⟨⟨s, rfl, hs⟩, rfl⟩
  refine vc4 (by simp) (by simp) (by simp) ?_
  have hsz : (⟨#[107]⟩ ++ s : ByteArray).size = 1 + s.size := by rw [ByteArray.size_append]; rfl
  rw [if_pos (by have : (⟨#[107]⟩ : ByteArray).size = 1 := rfl; omega), Option.bind_some]
  refine vc ?_
  exact endQ_of [] (.c (.v (.string (⟨#[107]⟩ ++ s)))) [some (.box 179 [Rw (eB b), In i2, In g2])] (by rfl) (vc trivial) (vc trivial) ⟨⟨_, rfl, by omega⟩, i2, g2, hi2, rfl⟩
theorem l02Val_ok (b : List UInt8) (hb : b.length ≤ 2^40) (i0 : Nat) (g0 : Int) (hi0 : i0 ≤ b.length) : CallOk Try.prog 158 [curO b i0 g0] [.pt 1 0 0] (StrP b 60) := by
  unfold curO
  refine callOk_z (np := 1) {} mixed Try.func158 (by rfl) Try.ntmps158 Try.results158 (by rfl) (Nat.le_of_ble_eq_true rfl) rfl rfl rfl (vc ?_)
  refine callq_of false [1] (show CallOk _ _ [.box 179 [Rw (eB b), In i0, In g0]] _ _ from l01Below_ok b hb i0 g0 hi0 12 (by omega)) rfl (vc trivial) (vc trivial) ?_
  rintro r out ⟨⟨x1, rfl, y1, z1⟩, i1, g1, hi1, rfl⟩
  unfold curO
  refine vc4 (by simp) (by simp) (by simp) ?_
  refine brB_intro (fun h1 => ?_) (fun h1 => ?_)
  · exact endQ_of [] (.c (.v (.string ⟨#[]⟩))) [some (.box 179 [Rw (eB b), In i1, In g1])] (by rfl) (vc trivial) (vc trivial) ⟨⟨_, rfl, by simp [ByteArray.size]⟩, i1, g1, hi1, rfl⟩
  refine brB_intro (fun h2 => ?_) (fun h2 => ?_)
  · obtain ⟨l, hl, hlen⟩ : ∃ l : List UInt8, bytesOf (List.take 60 (List.replicate 60 [CV.v (.int .u8 0)])) = some l ∧ l.length = 60 := ⟨List.replicate 60 0, by rw [eB_zeros, eB_take, bytesOf_eB, List.take_of_length_le (by simp)], by simp⟩
    rw [hl, Option.bind_some]
    refine vc ?_
    exact endQ_of [] (.c (.v (.string ⟨l.toArray⟩))) [some (.box 179 [Rw (eB b), In i1, In g1])] (by rfl) (vc trivial) (vc trivial) ⟨⟨_, rfl, by show l.toArray.size ≤ 60; rw [List.size_toArray]; omega⟩, i1, g1, hi1, rfl⟩
  refine callq_of false [1] (show CallOk _ _ [.box 179 [Rw (eB b), In i1, In g1]] _ _ from l01Below_ok b hb i1 g1 hi1 50 (by omega)) rfl (vc trivial) (vc trivial) ?_
  rintro r out ⟨⟨x2, rfl, y2, z2⟩, i2, g2, hi2, rfl⟩
  unfold curO
  refine vc4 (by simp) (by simp) (by simp) ?_
  obtain ⟨n2, rfl⟩ : ∃ n : Nat, x2 = n := ⟨x2.toNat, by omega⟩
  refine callq_of false [] (specNumText_ok 2 n2 (by omega) (by omega)) rfl trivial (vc trivial) ?_
  rintro r out ⟨⟨s, rfl, hs⟩, rfl⟩
  refine vc4 (by simp) (by simp) (by simp) ?_
  have hsz : (⟨#[118]⟩ ++ s : ByteArray).size = 1 + s.size := by rw [ByteArray.size_append]; rfl
  rw [if_pos (by have : (⟨#[118]⟩ : ByteArray).size = 1 := rfl; omega), Option.bind_some]
  refine vc ?_
  exact endQ_of [] (.c (.v (.string (⟨#[118]⟩ ++ s)))) [some (.box 179 [Rw (eB b), In i2, In g2])] (by rfl) (vc trivial) (vc trivial) ⟨⟨_, rfl, by omega⟩, i2, g2, hi2, rfl⟩
theorem l02AnyKey_ok (b : List UInt8) (hb : b.length ≤ 2^40) (i0 : Nat) (g0 : Int) (hi0 : i0 ≤ b.length) : CallOk Try.prog 137 [curO b i0 g0] [.pt 1 0 0] (StrP b 17) := by
  unfold curO
  refine callOk_z (np := 1) {} mixed Try.func137 (by rfl) Try.ntmps137 Try.results137 (by rfl) (Nat.le_of_ble_eq_true rfl) rfl rfl rfl (vc ?_)
  refine callq_of false [1] (show CallOk _ _ [.box 179 [Rw (eB b), In i0, In g0]] _ _ from l01Below_ok b hb i0 g0 hi0 8 (by omega)) rfl (vc trivial) (vc trivial) ?_
  rintro r out ⟨⟨x1, rfl, y1, z1⟩, i1, g1, hi1, rfl⟩
  unfold curO
  refine vc4 (by simp) (by simp) (by simp) ?_
  refine brB_intro (fun h1 => ?_) (fun h1 => ?_)
  · refine callq_of false [1] (show CallOk _ _ [.box 179 [Rw (eB b), In i1, In g1]] _ _ from l01Below_ok b hb i1 g1 hi1 4 (by omega)) rfl (vc trivial) (vc trivial) ?_
    rintro r out ⟨⟨x2, rfl, y2, z2⟩, i2, g2, hi2, rfl⟩
    unfold curO
    refine vc4 (by simp) (by simp) (by simp) ?_
    obtain ⟨n2, rfl⟩ : ∃ n : Nat, x2 = n := ⟨x2.toNat, by omega⟩
    refine ⟨by omega, ?_⟩
    rw [Int.toNat_natCast]
    obtain ⟨s, hs, hsz⟩ := strs_get (m := 17) (L := [[CV.v (.string ⟨#[]⟩)], [CV.v (.string ⟨#[122, 122, 122, 122, 122, 122, 122, 122, 122, 122, 122, 122, 122, 122, 122, 122, 122]⟩)], [CV.v (.string ⟨#[97, 0]⟩)], [CV.v (.string ⟨#[255]⟩)]]) (by rfl) (k := n2) (by show n2 < 4; omega)
    rw [hs]
    refine vc ?_
    exact endQ_of [] (.c (.v (.string s))) [some (.box 179 [Rw (eB b), In i2, In g2])] (by rfl) (vc trivial) (vc trivial) ⟨⟨_, rfl, hsz⟩, i2, g2, hi2, rfl⟩
  refine callq_of false [1] (show CallOk _ _ [.box 179 [Rw (eB b), In i1, In g1]] _ _ from l02Key_ok b hb i1 g1 hi1) rfl (vc trivial) (vc trivial) ?_
  rintro r out ⟨⟨s, rfl, hs⟩, i2, g2, hi2, rfl⟩
  unfold curO
  refine vc4 (by simp) (by simp) (by simp) ?_
  exact endQ_of [] (.c (.v (.string s))) [some (.box 179 [Rw (eB b), In i2, In g2])] (by rfl) (vc trivial) (vc trivial) ⟨⟨_, rfl, by omega⟩, i2, g2, hi2, rfl⟩
theorem l02AnyVal_ok (b : List UInt8) (hb : b.length ≤ 2^40) (i0 : Nat) (g0 : Int) (hi0 : i0 ≤ b.length) : CallOk Try.prog 138 [curO b i0 g0] [.pt 1 0 0] (StrP b 61) := by
  unfold curO
  refine callOk_z (np := 1) {} mixed Try.func138 (by rfl) Try.ntmps138 Try.results138 (by rfl) (Nat.le_of_ble_eq_true rfl) rfl rfl rfl (vc ?_)
  refine callq_of false [1] (show CallOk _ _ [.box 179 [Rw (eB b), In i0, In g0]] _ _ from l01Below_ok b hb i0 g0 hi0 14 (by omega)) rfl (vc trivial) (vc trivial) ?_
  rintro r out ⟨⟨x1, rfl, y1, z1⟩, i1, g1, hi1, rfl⟩
  unfold curO
  refine vc4 (by simp) (by simp) (by simp) ?_
  refine brB_intro (fun h1 => ?_) (fun h1 => ?_)
  · obtain ⟨l, hl, hlen⟩ : ∃ l : List UInt8, bytesOf (List.take 61 (List.replicate 61 [CV.v (.int .u8 0)])) = some l ∧ l.length = 61 := ⟨List.replicate 61 0, by rw [eB_zeros, eB_take, bytesOf_eB, List.take_of_length_le (by simp)], by simp⟩
    rw [hl, Option.bind_some]
    refine vc ?_
    exact endQ_of [] (.c (.v (.string ⟨l.toArray⟩))) [some (.box 179 [Rw (eB b), In i1, In g1])] (by rfl) (vc trivial) (vc trivial) ⟨⟨_, rfl, by show l.toArray.size ≤ 61; rw [List.size_toArray]; omega⟩, i1, g1, hi1, rfl⟩
  refine callq_of false [1] (show CallOk _ _ [.box 179 [Rw (eB b), In i1, In g1]] _ _ from l02Val_ok b hb i1 g1 hi1) rfl (vc trivial) (vc trivial) ?_
  rintro r out ⟨⟨s, rfl, hs⟩, i2, g2, hi2, rfl⟩
  unfold curO
  refine vc4 (by simp) (by simp) (by simp) ?_
  exact endQ_of [] (.c (.v (.string s))) [some (.box 179 [Rw (eB b), In i2, In g2])] (by rfl) (vc trivial) (vc trivial) ⟨⟨_, rfl, by omega⟩, i2, g2, hi2, rfl⟩
theorem l01Raw_ok (b : List UInt8) (hb : b.length ≤ 2^40) (i0 : Nat) (g0 : Int) (hi0 : i0 ≤ b.length) : CallOk Try.prog 139 [curO b i0 g0] [.pt 1 0 0] (NumP b (-9223372036854775808) 9223372036854775807) := by
  unfold curO
  refine callOk_z (np := 1) {} mixed Try.func139 (by rfl) Try.ntmps139 Try.results139 (by rfl) (Nat.le_of_ble_eq_true rfl) rfl rfl rfl (vc ?_)
  refine callq_of false [1] (show CallOk _ _ [.box 179 [Rw (eB b), In i0, In g0]] _ _ from l01Below_ok b hb i0 g0 hi0 10 (by omega)) rfl (vc trivial) (vc trivial) ?_
  rintro r out ⟨⟨x1, rfl, y1, z1⟩, i1, g1, hi1, rfl⟩
  unfold curO
  refine vc4 (by simp) (by simp) (by simp) ?_
  refine brB_intro (fun h1 => ?_) (fun h1 => ?_)
  · refine callq_of false [1] (show CallOk _ _ [.box 179 [Rw (eB b), In i1, In g1]] _ _ from l01Below_ok b hb i1 g1 hi1 20 (by omega)) rfl (vc trivial) (vc trivial) ?_
    rintro r out ⟨⟨x2, rfl, y2, z2⟩, i2, g2, hi2, rfl⟩
    unfold curO
    refine vc4 (by simp) (by simp) (by simp) ?_
    exact endQ_of [] (In x2) [some (.box 179 [Rw (eB b), In i2, In g2])] (by rfl) (vc trivial) (vc trivial) ⟨⟨_, rfl, by omega, by omega⟩, i2, g2, hi2, rfl⟩
  refine brB_intro (fun h1 => ?_) (fun h1 => ?_)
  · refine callq_of false [1] (show CallOk _ _ [.box 179 [Rw (eB b), In i1, In g1]] _ _ from l01Below_ok b hb i1 g1 hi1 3 (by omega)) rfl (vc trivial) (vc trivial) ?_
    rintro r out ⟨⟨x2, rfl, y2, z2⟩, i2, g2, hi2, rfl⟩
    unfold curO
    refine vc4 (by simp) (by simp) (by simp) ?_
    rw [w64 _ (by omega)]
    exact endQ_of [] (In (1099511627774 + x2)) [some (.box 179 [Rw (eB b), In i2, In g2])] (by rfl) (vc trivial) (vc trivial) ⟨⟨_, rfl, by omega, by omega⟩, i2, g2, hi2, rfl⟩
  refine brB_intro (fun h1 => ?_) (fun h1 => ?_)
  · refine callq_of false [1] (show CallOk _ _ [.box 179 [Rw (eB b), In i1, In g1]] _ _ from l01Below_ok b hb i1 g1 hi1 2 (by omega)) rfl (vc trivial) (vc trivial) ?_
    rintro r out ⟨⟨x2, rfl, y2, z2⟩, i2, g2, hi2, rfl⟩
    unfold curO
    refine vc4 (by simp) (by simp) (by simp) ?_
    rw [w64 _ (by omega)]
    exact endQ_of [] (In (-1 - x2)) [some (.box 179 [Rw (eB b), In i2, In g2])] (by rfl) (vc trivial) (vc trivial) ⟨⟨_, rfl, by omega, by omega⟩, i2, g2, hi2, rfl⟩
  refine brB_intro (fun h1 => ?_) (fun h1 => ?_)
  · refine callq_of false [1] (show CallOk _ _ [.box 179 [Rw (eB b), In i1, In g1]] _ _ from l01Below_ok b hb i1 g1 hi1 2 (by omega)) rfl (vc trivial) (vc trivial) ?_
    rintro r out ⟨⟨x2, rfl, y2, z2⟩, i2, g2, hi2, rfl⟩
    unfold curO
    refine vc4 (by simp) (by simp) (by simp) ?_
    rw [w64 _ (by omega)]
    exact endQ_of [] (In (9223372036854775807 - x2)) [some (.box 179 [Rw (eB b), In i2, In g2])] (by rfl) (vc trivial) (vc trivial) ⟨⟨_, rfl, by omega, by omega⟩, i2, g2, hi2, rfl⟩
  refine brB_intro (fun h1 => ?_) (fun h1 => ?_)
  · refine callq_of false [1] (show CallOk _ _ [.box 179 [Rw (eB b), In i1, In g1]] _ _ from l01Below_ok b hb i1 g1 hi1 2 (by omega)) rfl (vc trivial) (vc trivial) ?_
    rintro r out ⟨⟨x2, rfl, y2, z2⟩, i2, g2, hi2, rfl⟩
    unfold curO
    refine vc4 (by simp) (by simp) (by simp) ?_
    rw [w64 _ (by omega)]
    exact endQ_of [] (In (-9223372036854775807 - x2)) [some (.box 179 [Rw (eB b), In i2, In g2])] (by rfl) (vc trivial) (vc trivial) ⟨⟨_, rfl, by omega, by omega⟩, i2, g2, hi2, rfl⟩
  refine brB_intro (fun h1 => ?_) (fun h1 => ?_)
  · refine callq_of false [1] (show CallOk _ _ [.box 179 [Rw (eB b), In i1, In g1]] _ _ from l01Below_ok b hb i1 g1 hi1 8 (by omega)) rfl (vc trivial) (vc trivial) ?_
    rintro r out ⟨⟨x2, rfl, y2, z2⟩, i2, g2, hi2, rfl⟩
    unfold curO
    refine vc4 (by simp) (by simp) (by simp) ?_
    obtain ⟨n2, rfl⟩ : ∃ n : Nat, x2 = n := ⟨x2.toNat, by omega⟩
    refine ⟨by omega, ?_⟩
    rw [Int.toNat_natCast]
    obtain ⟨v, hv, hv0, hv1⟩ := ints_get (L := [[CV.v (.int .i64 127)], [CV.v (.int .i64 128)], [CV.v (.int .i64 16383)], [CV.v (.int .i64 16384)], [CV.v (.int .i64 255)], [CV.v (.int .i64 256)], [CV.v (.int .i64 4096)], [CV.v (.int .i64 4097)]]) (by rfl) (k := n2) (by show n2 < 8; omega)
    rw [hv]
    refine vc ?_
    exact endQ_of [] (In v) [some (.box 179 [Rw (eB b), In i2, In g2])] (by rfl) (vc trivial) (vc trivial) ⟨⟨_, rfl, hv0, hv1⟩, i2, g2, hi2, rfl⟩
  refine callq_of false [1] (show CallOk _ _ [.box 179 [Rw (eB b), In i1, In g1]] _ _ from l01Below_ok b hb i1 g1 hi1 65536 (by omega)) rfl (vc trivial) (vc trivial) ?_
  rintro r out ⟨⟨x2, rfl, y2, z2⟩, i2, g2, hi2, rfl⟩
  unfold curO
  refine vc4 (by simp) (by simp) (by simp) ?_
  rw [w64 _ (by omega)]
  exact endQ_of [] (In (x2 * 257)) [some (.box 179 [Rw (eB b), In i2, In g2])] (by rfl) (vc trivial) (vc trivial) ⟨⟨_, rfl, by omega, by omega⟩, i2, g2, hi2, rfl⟩
end Go.Proofs.Ytnnmpdanfeejbaa.Abs

/- The reference: one node or another; trees laid out. -/
namespace Go.Proofs.Ytnnmpdanfeejbaa.Abs
open Go Go.Proofs
set_option maxRecDepth 10000
set_option linter.unusedVariables false
set_option linter.unusedSimpArgs false
/-- A node, handed over to be read. -/
def Nd.rd (n : Nd) : AV := .ag [Rw (n.ps.map prC), Rw (n.ks.map stC), Rw (n.cs.map inC)]
def Nd.le (n : Nd) (b : Nat) : Prop := n.ps.length ≤ b ∧ n.ks.length ≤ b ∧ n.cs.length ≤ b
theorem ba_ext {a b : ByteArray} (h : a.toList = b.toList) : a = b := by
  refine (ba_ne a b).1 ?_
  rw [h]; simp
theorem pr_ext {p q : Pr} (h1 : p.k = q.k) (h2 : p.v = q.v) : p = q := by
  cases p; cases q; simp at h1 h2; rw [h1, h2]
theorem sameNode_ok (a b : Nd) (ha : a.le (2^40)) (hb : b.le (2^40)) : CallOk Try.prog 91 [] [a.rd, b.rd] (fun r out => r = Bo (decide (a = b)) ∧ out = []) := by
  obtain ⟨p1, k1, c1⟩ := a
  obtain ⟨p2, k2, c2⟩ := b
  obtain ⟨a1, a2, a3⟩ := ha
  obtain ⟨b1, b2, b3⟩ := hb
  simp only at a1 a2 a3 b1 b2 b3
  unfold Nd.rd
  refine callOk_z (np := 0) {} mixed Try.func91 (by rfl) Try.ntmps91 Try.results91 (by rfl) (Nat.le_of_ble_eq_true rfl) rfl rfl rfl (vc ?_)
  have hno : ∀ H : Hp, (p1 ≠ p2 ∨ k1 ≠ k2 ∨ c1 ≠ c2) → EndQ 0 H (Bo false) (fun r out => r = Bo (decide (Nd.mk p1 k1 c1 = Nd.mk p2 k2 c2)) ∧ out = []) := fun H e => EndQ.closed (.v _) ⟨by
    rw [decide_eq_false]
    intro e2
    cases e2
    simp at e, rfl⟩
  refine brB_intro (fun h => hno _ (.inl (fun e => by subst e; simp at h))) (fun h1 => brB_intro (fun h => hno _ (.inr (.inl (fun e => by subst e; simp at h)))) (fun h2 => brB_intro (fun h => hno _ (.inr (.inr (fun e => by subst e; simp at h)))) (fun h3 => ?_)))
  have h1 : p1.length = p2.length := by simp at h1; omega
  have h2 : k1.length = k2.length := by simp at h2; omega
  have h3 : c1.length = c2.length := by simp at h3; omega
  refine loopQ_of (fun i => [(2, .pt 1 0 0), (3, .pt 2 0 0), (35, In p1.length), (36, In (i : Nat))]) (fun i => [(1, .box 125 [Rw (p1.map prC), Rw (k1.map stC), Rw (c1.map inC)]), (2, .box 125 [Rw (p2.map prC), Rw (k2.map stC), Rw (c2.map inC)])]) 3 (fun i => p1.length - i) (fun i => i ≤ p1.length ∧ p1.take i = p2.take i) 0 ⟨Nat.zero_le _, rfl⟩ [(2, 9)] (by rfl) (vc trivial) (vc trivial) (fun i hi N hN => vc (brB_intro (fun h => ?_) (fun h => ?_)))
  · have h : i < p1.length := by simpa using h
    have hx := List.getElem?_eq_getElem h
    have hy := List.getElem?_eq_getElem (show i < p2.length by omega)
    refine drawQ_of false (by rfl) (by simp) (vc ?_)
    rw [get_map hx, prC]
    refine vc ?_
    rw [get_map hy, prC]
    refine vc ?_
    refine brB_intro (fun hb => ?_) (fun hb => ?_)
    · refine hno _ (.inl (fun e => ?_))
      have : p1[i] = p2[i] := by subst e; rfl
      rw [this] at hb; simp at hb
    · have hb : p1[i] = p2[i] := by
        simp only [Bool.not_eq_false', Bool.and_eq_true, beq_iff_eq] at hb
        exact pr_ext (ba_ext hb.1) (ba_ext hb.2)
      refine hN _ (i + 1) [(2, 2)] ⟨h, take_next hi.2 hx hy hb⟩ (by omega) (by rfl) (vc ?_) (vc trivial)
      rw [w64 _ (by omega)]; simp
  · have h : i = p1.length := by simp at h; omega
    have e1: p1 = p2 := by have := hi.2; rwa [h, List.take_length, show p1.length = p2.length by omega, List.take_length] at this
    refine loopQ_of (fun i => [(2, .pt 1 0 0), (3, .pt 2 0 0), (53, In k1.length), (54, In (i : Nat))]) (fun i => [(1, .box 125 [Rw (p1.map prC), Rw (k1.map stC), Rw (c1.map inC)]), (2, .box 125 [Rw (p2.map prC), Rw (k2.map stC), Rw (c2.map inC)])]) 3 (fun i => k1.length - i) (fun i => i ≤ k1.length ∧ k1.take i = k2.take i) 0 ⟨Nat.zero_le _, rfl⟩ [(2, 2)] (by rfl) (vc trivial) (vc trivial) (fun i hi N hN => vc (brB_intro (fun h => ?_) (fun h => ?_)))
    · have h : i < k1.length := by simpa using h
      have hx := List.getElem?_eq_getElem h
      have hy := List.getElem?_eq_getElem (show i < k2.length by omega)
      refine drawQ_of false (by rfl) (by simp) (vc ?_)
      rw [get_map hx, stC]
      refine vc ?_
      rw [get_map hy, stC]
      refine vc ?_
      refine brB_intro (fun hb => ?_) (fun hb => ?_)
      · refine hno _ (.inr <| .inl (fun e => ?_))
        have : k1[i] = k2[i] := by subst e; rfl
        rw [this] at hb; simp at hb
      · have hb : k1[i] = k2[i] := (ba_ne _ _).1 hb
        refine hN _ (i + 1) [(2, 2)] ⟨h, take_next hi.2 hx hy hb⟩ (by omega) (by rfl) (vc ?_) (vc trivial)
        rw [w64 _ (by omega)]; simp
    · have h : i = k1.length := by simp at h; omega
      have e2: k1 = k2 := by have := hi.2; rwa [h, List.take_length, show k1.length = k2.length by omega, List.take_length] at this
      refine loopQ_of (fun i => [(2, .pt 1 0 0), (3, .pt 2 0 0), (71, In c1.length), (72, In (i : Nat))]) (fun i => [(1, .box 125 [Rw (p1.map prC), Rw (k1.map stC), Rw (c1.map inC)]), (2, .box 125 [Rw (p2.map prC), Rw (k2.map stC), Rw (c2.map inC)])]) 3 (fun i => c1.length - i) (fun i => i ≤ c1.length ∧ c1.take i = c2.take i) 0 ⟨Nat.zero_le _, rfl⟩ [(2, 2)] (by rfl) (vc trivial) (vc trivial) (fun i hi N hN => vc (brB_intro (fun h => ?_) (fun h => ?_)))
      · have h : i < c1.length := by simpa using h
        have hx := List.getElem?_eq_getElem h
        have hy := List.getElem?_eq_getElem (show i < c2.length by omega)
        refine drawQ_of false (by rfl) (by simp) (vc ?_)
        rw [get_map hx, inC]
        refine vc ?_
        rw [get_map hy, inC]
        refine vc ?_
        refine brB_intro (fun hb => ?_) (fun hb => ?_)
        · refine hno _ (.inr <| .inr (fun e => ?_))
          have : c1[i] = c2[i] := by subst e; rfl
          rw [this] at hb; simp at hb
        · have hb : c1[i] = c2[i] := by simpa using hb
          refine hN _ (i + 1) [(2, 2)] ⟨h, take_next hi.2 hx hy hb⟩ (by omega) (by rfl) (vc ?_) (vc trivial)
          rw [w64 _ (by omega)]; simp
      · have h : i = c1.length := by simp at h; omega
        have e3: c1 = c2 := by have := hi.2; rwa [h, List.take_length, show c1.length = c2.length by omega, List.take_length] at this
        refine EndQ.closed (.v _) ⟨?_, rfl⟩
        subst e1 e2 e3
        simp
end Go.Proofs.Ytnnmpdanfeejbaa.Abs

/- The reference: trees laid out. -/
namespace Go.Proofs.Ytnnmpdanfeejbaa.Abs
open Go Go.Proofs
set_option maxRecDepth 10000
set_option linter.unusedVariables false
set_option linter.unusedSimpArgs false
theorem Sub.leasts_eq : ∀ l : List Sub, Sub.leasts l = l.map Sub.least
  | [] => by rw [Sub.leasts]; rfl
  | x :: r => by rw [Sub.leasts, Sub.leasts_eq r]; rfl
theorem Sub.layL_app : ∀ (l m : List Sub) (a : Nat), Sub.layL a (l ++ m) = Sub.layL a l ++ Sub.layL (a + (Sub.layL a l).length) m
  | [], m, a => by rw [Sub.layL]; rfl
  | x :: r, m, a => by
    rw [List.cons_append, Sub.layL, Sub.layL, Sub.layL_app r m, List.append_assoc, List.length_append]
    rw [show a + (x.lay a).length + (Sub.layL (a + (x.lay a).length) r).length = a + ((x.lay a).length + (Sub.layL (a + (x.lay a).length) r).length) by omega]
theorem Sub.plcs_app : ∀ (l m : List Sub) (a : Nat), Sub.plcs a (l ++ m) = Sub.plcs a l ++ Sub.plcs (a + (Sub.layL a l).length) m
  | [], m, a => by rw [Sub.plcs, Sub.layL]; rfl
  | x :: r, m, a => by
    rw [List.cons_append, Sub.plcs, Sub.plcs, Sub.plcs_app r m, Sub.layL, List.length_append]
    rw [show a + (x.lay a).length + (Sub.layL (a + (x.lay a).length) r).length = a + ((x.lay a).length + (Sub.layL (a + (x.lay a).length) r).length) by omega]
    rfl
theorem Sub.plcs_len : ∀ (l : List Sub) (a : Nat), (Sub.plcs a l).length = l.length
  | [], a => by rw [Sub.plcs]; rfl
  | x :: r, a => by rw [Sub.plcs, List.length_cons, Sub.plcs_len r]; rfl
theorem Sub.layL_next {l : List Sub} {i : Nat} {x : Sub} (h : l[i]? = some x) (a : Nat) : Sub.layL a (l.take (i + 1)) = Sub.layL a (l.take i) ++ x.lay (a + (Sub.layL a (l.take i)).length) := by
  rw [List.take_add_one, h, Sub.layL_app]
  simp [Sub.layL]
theorem Sub.plcs_next {l : List Sub} {i : Nat} {x : Sub} (h : l[i]? = some x) (a : Nat) : Sub.plcs a (l.take (i + 1)) = Sub.plcs a (l.take i) ++ [((a + (Sub.layL a (l.take i)).length : Nat) : Int)] := by
  rw [List.take_add_one, h, Sub.plcs_app]
  simp [Sub.plcs]
mutual
theorem Sub.lay_len : ∀ (s : Sub) (a : Nat), 1 ≤ (s.lay a).length ∧ (s.lay a).length ≤ s.sz
  | .mk l ps ks, a => by
    rw [Sub.lay, Sub.sz]
    have := Sub.layL_len ks (a + 1)
    split
    · simp
    · rw [List.length_cons]; omega
theorem Sub.layL_len : ∀ (l : List Sub) (a : Nat), (Sub.layL a l).length ≤ Sub.szL l
  | [], a => by rw [Sub.layL, Sub.szL]; exact Nat.le_refl _
  | x :: r, a => by
    have h1 := (Sub.lay_len x a).2
    have h2 := Sub.layL_len r (a + (x.lay a).length)
    rw [Sub.layL, Sub.szL, List.length_append]; omega
end
theorem Sub.szL_take (l : List Sub) (i : Nat) : Sub.szL (l.take i) ≤ Sub.szL l := by
  induction l generalizing i with
  | nil => simp
  | cons x r ih =>
    cases i with
    | zero => simp [Sub.szL]
    | succ i => have := ih i; rw [List.take_succ_cons, Sub.szL, Sub.szL]; omega
theorem Sub.pairsL_mem {x : Sub} : ∀ {l : List Sub}, x ∈ l → x.pairs.length ≤ (Sub.pairsL l).length
  | y :: r, h => by
    rw [Sub.pairsL, List.length_append]
    rcases List.mem_cons.1 h with rfl | h
    · omega
    · have := Sub.pairsL_mem h; omega
theorem Sub.szL_split {l : List Sub} {i : Nat} {x : Sub} (h : l[i]? = some x) : Sub.szL (l.take i) + x.sz ≤ Sub.szL l := by
  induction l generalizing i with
  | nil => simp at h
  | cons y r ih =>
    cases i with
    | zero => cases h; simp [Sub.szL]
    | succ i => have := ih h; rw [List.take_succ_cons, Sub.szL, Sub.szL]; omega
def nd0 : Nd := ⟨[], [], []⟩
theorem set_last {α : Type} (l m : List α) (x y : α) (n : Nat) (h : n = l.length) : (l ++ x :: m).set n y = l ++ y :: m := by
  subst h
  rw [List.set_append, if_neg (by omega), Nat.sub_self]; rfl
theorem get_last {α : Type} (l m : List α) (x : α) (n : Nat) (h : n = l.length) : (l ++ x :: m)[n]? = some x := by
  subst h
  rw [List.getElem?_append_right (Nat.le_refl _), Nat.sub_self]; rfl
/-- What a laid list comes to. -/
def layT (pre : List Nd) (s : Sub) : List Nd := pre ++ s.lay pre.length
theorem lay_ok : ∀ (n : Nat) (s : Sub) (pre : List Nd), s.sz ≤ n → pre.length + s.sz ≤ 2^40 → s.pairs.length ≤ 2^40 → CallOk Try.prog 90 [.rw 125 3 (pre.map (ndC true))] [.sl 1 pre.length, s.rd] (fun r out => r = .sl 2 (layT pre s).length ∧ out = [none, some (.rw 125 3 ((layT pre s).map (ndC true)))]) := by
  intro n
  induction n with
  | zero => intro s pre hs; cases s; rw [Sub.sz] at hs; omega
  | succ n ih =>
    intro s pre hs hk hp
    unfold Sub.rd
    have hkl := s.ks_len
    have hll := s.lay_len pre.length
    have hpl : s.ps.length ≤ 2^40 := by rw [Sub.pairs_eq, List.length_append] at hp; omega
    refine callOk_z (np := 1) { js := [13] } mixed Try.func90 (by rfl) Try.ntmps90 Try.results90 (by rfl) (Nat.le_of_ble_eq_true rfl) rfl rfl rfl (vc ?_)
    refine ⟨⟨by simp, by unfold maxLen; omega, by omega⟩, brB_intro (fun h => ⟨⟨by unfold maxLen; omega, by omega⟩, ⟨by omega, by simp⟩, ?_⟩) (fun h => ?_)⟩
    · rw [get_last _ _ _ _ (by simp)]
      refine vc ?_
      rw [set_last _ _ _ _ _ (by simp)]
      refine endQ_of [(2, 66)] (.sl 2 (layT pre s).length) [none, some (.rw 125 3 ((layT pre s).map (ndC true)))] (by rfl) (vc ?_) (vc ?_) ⟨rfl, rfl⟩
      · unfold layT; rw [Sub.lay_eq, if_pos h]; simp
      · unfold layT; rw [Sub.lay_eq, if_pos h]; simp [ndC]
    have h1 : s.leaf = false := h
    have h1 : s.leaf = false := h
    have hkp : ∀ x ∈ s.ks, x.pairs.length ≤ 2^40 := fun x hx => by
      have := Sub.pairsL_mem hx
      rw [Sub.pairs_eq, List.length_append] at hp
      omega
    have hsz : s.sz = 1 + Sub.szL s.ks := by cases s; rw [Sub.sz]; rfl
    refine loopQ_of (fun i => [(0, .sl 3 (pre ++ nd0 :: Sub.layL (pre.length + 1) (s.ks.take i)).length), (3, .pt 2 0 0), (5, In pre.length), (6, .pt 4 0 0), (28, In s.ks.length), (29, In (i : Nat))]) (fun i => [(2, .box 115 [Bo s.leaf, Rw (s.ps.map prC), Rw (s.ks.map (suC false))]), (3, .rw 125 3 ((pre ++ nd0 :: Sub.layL (pre.length + 1) (s.ks.take i)).map (ndC true))), (4, .box 125 [.nul, .sl 5 ((Sub.leasts (s.ks.take i)).drop 1).length, .sl 6 i]), (5, .rw 9 1 (((Sub.leasts (s.ks.take i)).drop 1).map stC)), (6, .rw 3 1 ((Sub.plcs (pre.length + 1) (s.ks.take i)).map inC))]) 7 (fun i => s.ks.length - i) (fun i => i ≤ s.ks.length) 0 (Nat.zero_le _) [(3, 66), (4, 106), (5, 0), (6, 0)] (by rfl) (vc ?_) (vc ?_) (fun i hi N hN => vc (brB_intro (fun h => ?_) (fun h => ?_)))
    · simp [Sub.layL]
    · simp [Sub.layL, Sub.leasts, Sub.plcs, nd0, ndC]
    · have h : i < s.ks.length := by simpa using h
      have hx := List.getElem?_eq_getElem h
      have hm := List.getElem_mem h
      have hnx := Sub.layL_next hx (pre.length + 1)
      have hpn := Sub.plcs_next hx (pre.length + 1)
      have hss := Sub.szL_split hx
      have hl1 := Sub.layL_len (s.ks.take i) (pre.length + 1)
      have hpli : (Sub.plcs (pre.length + 1) (s.ks.take i)).length = i := by rw [Sub.plcs_len, List.length_take]; omega
      have hat : (pre ++ nd0 :: Sub.layL (pre.length + 1) (s.ks.take i)).length = pre.length + 1 + (Sub.layL (pre.length + 1) (s.ks.take i)).length := by simp; omega
      have hat0 : i = 0 → (pre ++ nd0 :: Sub.layL (pre.length + 1) (s.ks.take i)).length = pre.length + 1 := fun e => by subst e; simp [Sub.layL]
      have hlsi : (Sub.leasts (s.ks.take i)).length = i := by rw [Sub.leasts_eq, List.length_map, List.length_take]; omega
      refine ⟨⟨by omega, by unfold maxLen; omega, by omega⟩, ?_⟩
      refine joinQ_of (ι := Unit) (fun _ => [(0, .sl 3 (pre ++ nd0 :: Sub.layL (pre.length + 1) (s.ks.take i)).length), (3, .pt 2 0 0), (5, In pre.length), (6, .pt 4 0 0), (7, In (i : Nat)), (28, In s.ks.length), (29, In (i : Nat))]) (fun _ => [(2, .box 115 [Bo s.leaf, Rw (s.ps.map prC), Rw (s.ks.map (suC false))]), (3, .rw 125 3 ((pre ++ nd0 :: Sub.layL (pre.length + 1) (s.ks.take i)).map (ndC true))), (4, .box 125 [.nul, .sl 5 ((Sub.leasts (s.ks.take (i + 1))).drop 1).length, .sl 6 (i + 1)]), (5, .rw 9 1 (((Sub.leasts (s.ks.take (i + 1))).drop 1).map stC)), (6, .rw 3 1 ((Sub.plcs (pre.length + 1) (s.ks.take (i + 1))).map inC))]) 7 (fun _ => True) (fun M hM => vc (brB_intro (fun h0 => ?_) (fun h0 => ?_))) (fun _ _ => vc ?_)
      · have h0 : 0 < i := by simpa using h0
        refine drawQ_of false (by rfl) (by simp) (vc ?_)
        rw [get_map hx, suC_eq]
        refine vc ?_
        have hc := least_ok s.ks[i].sz s.ks[i] (Nat.le_refl _)
        unfold Sub.rd at hc
        refine calld_of [] false [] hc rfl trivial (vc trivial) (by rfl) ⟨_, _, rfl, rfl⟩ ?_
        rintro r out ⟨rfl, rfl⟩
        refine ⟨by simp, by simp, by simp, vc ?_⟩
        refine ⟨⟨by unfold maxLen; simp; omega, by simp; omega⟩, ?_⟩
        have hln : (Sub.leasts (s.ks.take (i + 1))).drop 1 = (Sub.leasts (s.ks.take i)).drop 1 ++ [s.ks[i].least] := by
          rw [List.take_add_one, hx, Sub.leasts_eq, Sub.leasts_eq, List.map_append, List.drop_append_of_le_length (by simp; omega)]; rfl
        repeat refine ⟨rfl, ?_⟩
        refine hM _ () [(6, 71), (5, 183)] trivial (by rfl) (vc trivial) (vc ?_)
        rw [hln, hpn]
        simp [stC, inC, hlsi, hpli, hat, show i - 1 + 1 = i by omega]
      · have h0 : i = 0 := by simp at h0; omega
        subst h0
        refine hM _ () [(6, 71)] trivial (by rfl) (vc trivial) (vc ?_)
        have hln : (Sub.leasts (s.ks.take 1)).drop 1 = [] := by
          rw [List.drop_eq_nil_iff, Sub.leasts_eq, List.length_map, List.length_take]; omega
        have hl0 : Sub.leasts [] = [] := by rw [Sub.leasts]
        rw [hln, hpn, hl0]
        simp [stC, inC, hat0, Sub.plcs, Sub.layL]
      · rw [get_map hx, suC_eq]
        refine vc ?_
        have hc := ih s.ks[i] (pre ++ nd0 :: Sub.layL (pre.length + 1) (s.ks.take i)) (by have := Sub.sz_kid hm; omega) (by simp; omega) (hkp _ hm)
        unfold Sub.rd at hc
        refine callq_of false [3] hc rfl (vc trivial) (vc trivial) ?_
        rintro r out ⟨rfl, rfl⟩
        refine ⟨by simp, by simp, by simp, vc ?_⟩
        refine hN _ (i + 1) [(3, 55)] h (by omega) (by rfl) (vc ?_) (vc ?_)
        · rw [w64 _ (by omega), hnx]; unfold layT; rw [hat]; simp
        · rw [hnx]; unfold layT; rw [hat]; simp
    · have h : i = s.ks.length := by simp at h; omega
      subst h
      rw [List.take_length]
      have hsl : (((pre ++ nd0 :: Sub.layL (pre.length + 1) s.ks).map (ndC true)).set pre.length (ndC true ⟨[], (Sub.leasts s.ks).drop 1, Sub.plcs (pre.length + 1) s.ks⟩)) = (layT pre s).map (ndC true) := by
        rw [List.map_append, List.map_cons, set_last _ _ _ _ _ (by simp)]
        unfold layT
        rw [Sub.lay_eq, if_neg (by simp [h1]), List.map_append, List.map_cons]
      have hll : (layT pre s).length = (pre ++ nd0 :: Sub.layL (pre.length + 1) s.ks).length := by
        unfold layT
        rw [Sub.lay_eq, if_neg (by simp [h1])]; simp
      refine ⟨by simp, ?_⟩
      rw [if_pos (Sub.plcs_len _ _).symm, get_map (get_last _ _ _ _ rfl), ndC]
      refine vc ?_
      refine endQ_of [(2, 3)] (.sl 2 (layT pre s).length) [none, some (.rw 125 3 ((layT pre s).map (ndC true)))] (by rfl) (vc ?_) (vc ?_) ⟨rfl, rfl⟩
      · exact hll.symm
      · rw [← hsl]; rfl
theorem lay0_ok (s : Sub) (hk : s.sz ≤ 2^40) (hp : s.pairs.length ≤ 2^40) : CallOk Try.prog 90 [] [.nul, s.rd] (fun r out => r = .sl 1 (layT [] s).length ∧ out = [some (.rw 125 3 ((layT [] s).map (ndC true)))]) := by
    unfold Sub.rd
    have hkl := s.ks_len
    have hll := s.lay_len 0
    have hpl : s.ps.length ≤ 2^40 := by rw [Sub.pairs_eq, List.length_append] at hp; omega
    refine callOk_z (np := 0) { js := [13] } mixed Try.func90 (by rfl) Try.ntmps90 Try.results90 (by rfl) (Nat.le_of_ble_eq_true rfl) rfl rfl rfl (vc ?_)
    refine ⟨by unfold maxLen; omega, brB_intro (fun h => ⟨⟨by unfold maxLen; omega, by omega⟩, ?_⟩) (fun h => ?_)⟩
    · rw [List.set_cons_zero]
      refine endQ_of [(1, 65)] (.sl 1 (layT [] s).length) [some (.rw 125 3 ((layT [] s).map (ndC true)))] (by rfl) (vc ?_) (vc ?_) ⟨rfl, rfl⟩
      · unfold layT; rw [Sub.lay_eq, if_pos h]; simp
      · unfold layT; rw [Sub.lay_eq, if_pos h]; simp [ndC]
    have h1 : s.leaf = false := h
    have h1 : s.leaf = false := h
    have hkp : ∀ x ∈ s.ks, x.pairs.length ≤ 2^40 := fun x hx => by
      have := Sub.pairsL_mem hx
      rw [Sub.pairs_eq, List.length_append] at hp
      omega
    have hsz : s.sz = 1 + Sub.szL s.ks := by cases s; rw [Sub.sz]; rfl
    refine loopQ_of (fun i => [(0, .sl 2 (nd0 :: Sub.layL 1 (s.ks.take i)).length), (3, .pt 1 0 0), (5, In 0), (6, .pt 3 0 0), (28, In s.ks.length), (29, In (i : Nat))]) (fun i => [(1, .box 115 [Bo s.leaf, Rw (s.ps.map prC), Rw (s.ks.map (suC false))]), (2, .rw 125 3 ((nd0 :: Sub.layL 1 (s.ks.take i)).map (ndC true))), (3, .box 125 [.nul, .sl 4 ((Sub.leasts (s.ks.take i)).drop 1).length, .sl 5 i]), (4, .rw 9 1 (((Sub.leasts (s.ks.take i)).drop 1).map stC)), (5, .rw 3 1 ((Sub.plcs 1 (s.ks.take i)).map inC))]) 6 (fun i => s.ks.length - i) (fun i => i ≤ s.ks.length) 0 (Nat.zero_le _) [(2, 65), (3, 105), (4, 0), (5, 0)] (by rfl) (vc ?_) (vc ?_) (fun i hi N hN => vc (brB_intro (fun h => ?_) (fun h => ?_)))
    · simp [Sub.layL]
    · simp [Sub.layL, Sub.leasts, Sub.plcs, nd0, ndC]
    · have h : i < s.ks.length := by simpa using h
      have hx := List.getElem?_eq_getElem h
      have hm := List.getElem_mem h
      have hnx := Sub.layL_next hx 1
      have hpn := Sub.plcs_next hx 1
      have hss := Sub.szL_split hx
      have hl1 := Sub.layL_len (s.ks.take i) 1
      have hpli : (Sub.plcs 1 (s.ks.take i)).length = i := by rw [Sub.plcs_len, List.length_take]; omega
      have hat : (nd0 :: Sub.layL 1 (s.ks.take i)).length = 0 + 1 + (Sub.layL 1 (s.ks.take i)).length := by simp; omega
      have hat0 : i = 0 → (nd0 :: Sub.layL 1 (s.ks.take i)).length = 0 + 1 := fun e => by subst e; simp [Sub.layL]
      have hlsi : (Sub.leasts (s.ks.take i)).length = i := by rw [Sub.leasts_eq, List.length_map, List.length_take]; omega
      refine ⟨⟨by omega, by unfold maxLen; omega, by omega⟩, ?_⟩
      refine joinQ_of (ι := Unit) (fun _ => [(0, .sl 2 (nd0 :: Sub.layL 1 (s.ks.take i)).length), (3, .pt 1 0 0), (5, In 0), (6, .pt 3 0 0), (7, In (i : Nat)), (28, In s.ks.length), (29, In (i : Nat))]) (fun _ => [(1, .box 115 [Bo s.leaf, Rw (s.ps.map prC), Rw (s.ks.map (suC false))]), (2, .rw 125 3 ((nd0 :: Sub.layL 1 (s.ks.take i)).map (ndC true))), (3, .box 125 [.nul, .sl 4 ((Sub.leasts (s.ks.take (i + 1))).drop 1).length, .sl 5 (i + 1)]), (4, .rw 9 1 (((Sub.leasts (s.ks.take (i + 1))).drop 1).map stC)), (5, .rw 3 1 ((Sub.plcs 1 (s.ks.take (i + 1))).map inC))]) 6 (fun _ => True) (fun M hM => vc (brB_intro (fun h0 => ?_) (fun h0 => ?_))) (fun _ _ => vc ?_)
      · have h0 : 0 < i := by simpa using h0
        refine drawQ_of false (by rfl) (by simp) (vc ?_)
        rw [get_map hx, suC_eq]
        refine vc ?_
        have hc := least_ok s.ks[i].sz s.ks[i] (Nat.le_refl _)
        unfold Sub.rd at hc
        refine calld_of [] false [] hc rfl trivial (vc trivial) (by rfl) ⟨_, _, rfl, rfl⟩ ?_
        rintro r out ⟨rfl, rfl⟩
        refine ⟨by simp, by simp, by simp, vc ?_⟩
        refine ⟨⟨by unfold maxLen; simp; omega, by simp; omega⟩, ?_⟩
        have hln : (Sub.leasts (s.ks.take (i + 1))).drop 1 = (Sub.leasts (s.ks.take i)).drop 1 ++ [s.ks[i].least] := by
          rw [List.take_add_one, hx, Sub.leasts_eq, Sub.leasts_eq, List.map_append, List.drop_append_of_le_length (by simp; omega)]; rfl
        repeat refine ⟨rfl, ?_⟩
        refine hM _ () [(5, 70), (4, 182)] trivial (by rfl) (vc trivial) (vc ?_)
        rw [hln, hpn]
        simp [stC, inC, hlsi, hpli, hat, show i - 1 + 1 = i by omega]; omega
      · have h0 : i = 0 := by simp at h0; omega
        subst h0
        refine hM _ () [(5, 70)] trivial (by rfl) (vc trivial) (vc ?_)
        have hln : (Sub.leasts (s.ks.take 1)).drop 1 = [] := by
          rw [List.drop_eq_nil_iff, Sub.leasts_eq, List.length_map, List.length_take]; omega
        have hl0 : Sub.leasts [] = [] := by rw [Sub.leasts]
        rw [hln, hpn, hl0]
        simp [stC, inC, hat0, Sub.plcs, Sub.layL]
      · rw [get_map hx, suC_eq]
        refine vc ?_
        have hc := lay_ok s.ks[i].sz s.ks[i] (nd0 :: Sub.layL 1 (s.ks.take i)) (Nat.le_refl _) (by simp; omega) (hkp _ hm)
        unfold Sub.rd at hc
        refine callq_of false [2] hc rfl (vc trivial) (vc trivial) ?_
        rintro r out ⟨rfl, rfl⟩
        refine ⟨by simp, by simp, by simp, vc ?_⟩
        refine hN _ (i + 1) [(2, 54)] h (by omega) (by rfl) (vc ?_) (vc ?_)
        · rw [w64 _ (by omega), hnx]; unfold layT; rw [hat]; simp
        · rw [hnx]; unfold layT; rw [hat]; simp
    · have h : i = s.ks.length := by simp at h; omega
      subst h
      rw [List.take_length]
      have hsl : (((nd0 :: Sub.layL 1 s.ks).map (ndC true)).set 0 (ndC true ⟨[], (Sub.leasts s.ks).drop 1, Sub.plcs 1 s.ks⟩)) = (layT [] s).map (ndC true) := by
        rw [List.map_cons, List.set_cons_zero]
        unfold layT
        rw [Sub.lay_eq, if_neg (by simp [h1]), List.nil_append, List.map_cons]; rfl
      have hll : (layT [] s).length = (nd0 :: Sub.layL 1 s.ks).length := by
        unfold layT
        rw [Sub.lay_eq, if_neg (by simp [h1])]; simp only [List.length_nil, Nat.zero_add, List.nil_append, List.length_cons]
      refine ⟨by omega, ?_⟩
      rw [if_pos (Sub.plcs_len _ _).symm, ndC]
      refine vc ?_
      refine endQ_of [(1, 2)] (.sl 1 (layT [] s).length) [some (.rw 125 3 ((layT [] s).map (ndC true)))] (by rfl) (vc ?_) (vc ?_) ⟨rfl, rfl⟩
      · exact hll.symm
      · rw [← hsl]; rfl
end Go.Proofs.Ytnnmpdanfeejbaa.Abs

/- The reference: trees read. -/
namespace Go.Proofs.Ytnnmpdanfeejbaa.Abs
open Go Go.Proofs
set_option maxRecDepth 10000
set_option linter.unusedVariables false
set_option linter.unusedSimpArgs false
def treeAg (t : List Nd) : AV := .ag [Rw (t.map (ndC false))]
/-- What has been read, or nothing. -/
def rdO : Option (Sub × Int) → Sub × Int × Bool
  | some (s, nx) => (s, nx, true)
  | none => (.mk false [] [], 0, false)
def Sub.ow (s : Sub) : AV := .ag [Bo s.leaf, .sl 1 s.ps.length, .sl 2 s.ks.length]
def Sub.obs (s : Sub) : List (Option Ob) := [some (.rw 133 2 (s.ps.map prC)), some (.rw 115 3 (s.ks.map (suC true)))]
theorem readNone (H : Hp) : EndQ 0 H (.tu [.ag [Bo false, .nul, .nul], In 0, Bo false]) (fun r out => r = .tu [(rdO none).1.ow, In (rdO none).2.1, Bo (rdO none).2.2] ∧ out = (rdO none).1.obs) :=
  endQ_of [(1, 0), (2, 0)] (.tu [.ag [Bo false, .sl 1 0, .sl 2 0], In 0, Bo false]) [some (.rw 133 2 []), some (.rw 115 3 [])] (by rfl) (vc trivial) (vc trivial) ⟨rfl, rfl⟩
theorem read_ok (t : List Nd) (ht : t.length ≤ 2^40) (hn : ∀ x ∈ t, x.le (2^40)) : ∀ (f deep : Nat) (a : Int), f + deep = 13 → CallOk Try.prog 127 [] [treeAg t, In a, In deep] (fun r out => r = .tu [(rdO (rdT t f a)).1.ow, In (rdO (rdT t f a)).2.1, Bo (rdO (rdT t f a)).2.2] ∧ out = (rdO (rdT t f a)).1.obs) := by
  intro f
  induction f with
  | zero => 
    intro deep a hfd
    unfold treeAg
    refine callOk_z (np := 0) {} mixed Try.func127 (by rfl) Try.ntmps127 Try.results127 (by rfl) (Nat.le_of_ble_eq_true rfl) rfl rfl rfl (vc ?_)
    have hq : ∀ H : Hp, EndQ 0 H (.tu [.ag [Bo false, .nul, .nul], In 0, Bo false]) (fun r out => r = .tu [(rdO (rdT t 0 a)).1.ow, In (rdO (rdT t 0 a)).2.1, Bo (rdO (rdT t 0 a)).2.2] ∧ out = (rdO (rdT t 0 a)).1.obs) := fun H => by
      rw [rdT]
      exact readNone H
    refine brB_intro (fun h => hq _) (fun h1 => brB_intro (fun h => hq _) (fun h2 => brB_intro (fun h => hq _) (fun h3 => ?_)))
    simp at h3
    omega
  | succ f ih =>
    intro deep a hfd
    unfold treeAg
    refine callOk_z (np := 0) {} mixed Try.func127 (by rfl) Try.ntmps127 Try.results127 (by rfl) (Nat.le_of_ble_eq_true rfl) rfl rfl rfl (vc ?_)
    have hq : ∀ H : Hp, rdT t (f + 1) a = none → EndQ 0 H (.tu [.ag [Bo false, .nul, .nul], In 0, Bo false]) (fun r out => r = .tu [(rdO (rdT t (f + 1) a)).1.ow, In (rdO (rdT t (f + 1) a)).2.1, Bo (rdO (rdT t (f + 1) a)).2.2] ∧ out = (rdO (rdT t (f + 1) a)).1.obs) := fun H e => by
      rw [e]
      exact readNone H
    refine brB_intro (fun h => hq _ (by rw [rdT, if_pos (.inl (by simpa using h))])) (fun h1 => brB_intro (fun h => hq _ (by rw [rdT, if_pos (.inr (by simpa using h))])) (fun h2 => brB_intro (fun h => by simp at h; omega) (fun h3 => ?_)))
    have h1 : 0 ≤ a := by simpa using h1
    have h2 : a < t.length := by simpa using h2
    obtain ⟨a, rfl⟩ : ∃ k : Nat, a = k := ⟨a.toNat, by omega⟩
    have h2 : a < t.length := by omega
    have hx := List.getElem?_eq_getElem h2
    have hxl := hn _ (List.getElem_mem h2)
    have hrd : rdT t (f + 1) a = (rdT.rdK (rdT t f) t[a].cs (a + 1)).map fun x => (.mk (decide (t[a].cs.length = 0)) t[a].ps x.1, x.2) := by
      rw [rdT, if_neg (by omega), Int.toNat_natCast, hx]; rfl
    refine vc ?_
    rw [get_map hx, ndC]
    refine vc ?_
    refine drawQ_of false (by rfl) (by simp) (vc ?_)
    obtain ⟨x1, x2, x3⟩ := hxl
    refine ⟨⟨by unfold maxLen; omega, by omega⟩, ?_⟩
    repeat refine ⟨rfl, ?_⟩
    rw [w64 _ (by omega)]
    refine loopQ_of (ι := Nat × Int × List Sub) (fun i => [(2, In deep), (3, .pt 1 0 0), (6, .pt 2 0 0), (10, .pt 3 0 0), (11, In i.2.1), (48, Rw (t[a].cs.map inC)), (49, In t[a].cs.length), (50, In (i.1 : Nat))]) (fun i => [(1, .box 57 [Rw (t.map (ndC false))]), (2, .box 115 [Bo false, .nul, .nul]), (3, .box 115 [Bo (decide (t[a].cs.length = 0)), .sl 4 t[a].ps.length, .sl 5 i.1]), (4, .rw 133 2 (t[a].ps.map prC)), (5, .rw 115 3 (i.2.2.map (suC true)))]) 6 (fun i => t[a].cs.length - i.1)
      (fun i => i.1 ≤ t[a].cs.length ∧ i.2.2.length = i.1 ∧ rdT.rdK (rdT t f) t[a].cs (a + 1) = (rdT.rdK (rdT t f) (t[a].cs.drop i.1) i.2.1).map fun x => (i.2.2 ++ x.1, x.2)) (0, a + 1, []) ⟨Nat.zero_le _, rfl, by simp⟩ [(2, 9), (3, 265), (4, 249), (5, 0)] (by rfl) (vc ?_) (vc ?_) (fun i hi N hN => ?_)
    · trivial
    · rw [Bool.eq_iff_iff]; simp
    · obtain ⟨i, nx, acc⟩ := i
      obtain ⟨hi, hacc, hL⟩ := hi
      simp only at hi hacc hL hN
      refine vc (brB_intro (fun h => ?_) (fun h => ?_))
      · have h : i < t[a].cs.length := by simpa using h
        have hy := List.getElem?_eq_getElem h
        rw [List.drop_eq_getElem_cons h, rdT.rdK] at hL
        rw [get_map hy, inC]
        refine vc (brB_intro (fun h5 => ?_) (fun h5 => ?_))
        · have h5 : ¬ t[a].cs[i] = nx := by simpa using h5
          rw [if_neg h5] at hL
          exact hq _ (by rw [hrd, hL]; rfl)
        · have h5 : t[a].cs[i] = nx := by simpa using h5
          rw [if_pos h5] at hL
          rw [w64 _ (by omega)]
          have hc := ih (deep + 1) t[a].cs[i] (by omega)
          rw [show ((deep + 1 : Nat) : Int) = (deep : Int) + 1 by omega] at hc
          unfold treeAg at hc
          cases hr : rdT t f t[a].cs[i] with
          | none =>
            rw [hr] at hL hc
            simp only [rdO, Sub.ow, Sub.obs, Sub.leaf, Sub.ps, Sub.ks, List.length_nil, List.map_nil] at hc
            refine callq_of false [] hc rfl trivial (vc trivial) ?_
            rintro r out ⟨rfl, rfl⟩
            refine ⟨by simp, by simp, by simp, vc ?_⟩
            exact hq _ (by rw [hrd, hL]; rfl)
          | some x =>
            obtain ⟨x, nx'⟩ := x
            rw [hr] at hL hc
            simp only [rdO, Sub.ow, Sub.obs] at hc
            refine callq_of false [] hc rfl trivial (vc trivial) ?_
            rintro r out ⟨rfl, rfl⟩
            refine ⟨by simp, by simp, by simp, vc ?_⟩
            refine ⟨⟨hacc.symm, by simp, by unfold maxLen; omega, by omega⟩, ?_⟩
            refine hN _ (i + 1, nx', acc ++ [x]) [(5, 214)] ⟨h, by simp [hacc], by rw [hL]; simp [Function.comp_def]⟩ (by simp only; omega) (by rfl) (vc ?_) (vc ?_)
            · rw [w64 _ (by omega)]; simp
            · exact ⟨hacc, by rw [List.map_append, List.map_cons, suC_eq]; rfl⟩
      · have h : i = t[a].cs.length := by simp at h; omega
        rw [List.drop_of_length_le (by omega), rdT.rdK] at hL
        have hfin : rdT t (f + 1) a = some (.mk (decide (t[a].cs.length = 0)) t[a].ps acc, nx) := by
          rw [hrd, hL]; simp
        rw [hfin]
        refine endQ_of [(1, 4), (2, 5)] (.tu [.ag [Bo (decide (t[a].cs.length = 0)), .sl 1 t[a].ps.length, .sl 2 acc.length], In nx, Bo true]) [some (.rw 133 2 (t[a].ps.map prC)), some (.rw 115 3 (acc.map (suC true)))] (by rfl) (vc ?_) (vc trivial) ⟨rfl, rfl⟩
        exact hacc.symm
theorem root_ok (t : List Nd) (ht : t.length ≤ 2^40) (hn : ∀ x ∈ t, x.le (2^40)) : CallOk Try.prog 85 [] [treeAg t] (fun r out => r = .tu [(rootT t).1.ow, Bo (rootT t).2] ∧ out = (rootT t).1.obs) := by
  unfold treeAg
  refine callOk_z (np := 0) {} mixed Try.func85 (by rfl) Try.ntmps85 Try.results85 (by rfl) (Nat.le_of_ble_eq_true rfl) rfl rfl rfl (vc ?_)
  refine brB_intro (fun h => ?_) (fun h => ?_)
  · have h : t.length = 0 := by simp at h; simp [h]
    unfold rootT
    rw [if_pos h]
    exact endQ_of [(1, 0), (2, 0)] (.tu [.ag [Bo true, .sl 1 0, .sl 2 0], Bo true]) [some (.rw 133 2 []), some (.rw 115 3 [])] (by rfl) (vc trivial) (vc trivial) ⟨rfl, rfl⟩
  have h : ¬ t.length = 0 := fun e => by simp [e] at h
  have hc := read_ok t ht hn 13 0 0 rfl
  unfold treeAg at hc
  unfold rootT
  rw [if_neg h]
  cases hr : rdT t 13 0 with
  | none =>
    rw [hr] at hc
    simp only [rdO, Sub.ow, Sub.obs, Sub.leaf, Sub.ps, Sub.ks, List.length_nil, List.map_nil] at hc
    refine callq_of false [] hc rfl trivial (vc trivial) ?_
    rintro r out ⟨rfl, rfl⟩
    refine ⟨by simp, by simp, by simp, vc ?_⟩
    refine drawQ_of false (by rfl) (by simp) (vc ?_)
    exact endQ_of [(1, 65), (2, 66)] (.tu [.ag [Bo false, .sl 1 0, .sl 2 0], Bo false]) [some (.rw 133 2 []), some (.rw 115 3 [])] (by rfl) (vc trivial) (vc trivial) ⟨rfl, rfl⟩
  | some x =>
    obtain ⟨x, nx'⟩ := x
    rw [hr] at hc
    simp only [rdO, Sub.ow, Sub.obs] at hc
    refine callq_of false [] hc rfl trivial (vc trivial) ?_
    rintro r out ⟨rfl, rfl⟩
    refine ⟨by simp, by simp, by simp, vc ?_⟩
    refine drawQ_of false (by rfl) (by simp) (vc ?_)
    refine endQ_of [(1, 65), (2, 66)] (.tu [.ag [Bo x.leaf, .sl 1 x.ps.length, .sl 2 x.ks.length], Bo (decide (nx' = t.length))]) [some (.rw 133 2 (x.ps.map prC)), some (.rw 115 3 (x.ks.map (suC true)))] (by rfl) (vc ?_) (vc trivial) ⟨rfl, rfl⟩
    rw [Bool.eq_iff_iff]; simp
end Go.Proofs.Ytnnmpdanfeejbaa.Abs

/- The reference: is it a tree? -/
namespace Go.Proofs.Ytnnmpdanfeejbaa.Abs
open Go Go.Proofs
set_option maxRecDepth 10000
set_option linter.unusedVariables false
set_option linter.unusedSimpArgs false
/-- As the reference sees it. -/
def specOk (t : List Nd) : Prop := t = [] ∨ (t.length ≤ 400 ∧ (rootT t).2 = true ∧ (rootT t).1.full true = true ∧ 0 ≤ (rootT t).1.deep ∧ pairsOk (rootT t).1.pairs ∧ layT [] (rootT t).1 = t)
/-- What is read is no bigger than the list. -/
def nodesLe (t : List Nd) (b : Nat) : Prop := t.length ≤ b ∧ ∀ x ∈ t, x.le b
theorem specTreeOk_ok (t : List Nd) (ht : t.length ≤ 2^40) (hn : ∀ x ∈ t, x.le (2^40)) (hsz : (rootT t).1.sz ≤ 2^40) (hps : (rootT t).1.pairs.length ≤ 2^40) (hly : ∀ x ∈ layT [] (rootT t).1, x.le (2^40)) : CallOk Try.prog 28 [] [treeAg t] (fun r out => r = Bo (tf (specOk t)) ∧ out = []) := by
  unfold treeAg
  refine callOk_z (np := 0) {} mixed Try.func28 (by rfl) Try.ntmps28 Try.results28 (by rfl) (Nat.le_of_ble_eq_true rfl) rfl rfl rfl (vc ?_)
  refine brB_intro (fun h => EndQ.closed (.v _) ⟨?_, rfl⟩) (fun h => ?_)
  · rw [tf_true (.inl (List.length_eq_zero_iff.1 (by simp at h; simp [h])))]
  have h0 : ¬ t = [] := fun e => by subst e; simp at h
  have hno : ∀ H : Hp, ¬ (t.length ≤ 400 ∧ (rootT t).2 = true ∧ (rootT t).1.full true = true ∧ 0 ≤ (rootT t).1.deep ∧ pairsOk (rootT t).1.pairs ∧ layT [] (rootT t).1 = t) → EndQ 0 H (Bo false) (fun r out => r = Bo (tf (specOk t)) ∧ out = []) := fun H e => EndQ.closed (.v _) ⟨by
    rw [tf_false (fun x => x.elim h0 e)], rfl⟩
  refine brB_intro (fun h1 => hno _ (fun e => by have := e.1; simp at h1; omega)) (fun h1 => ?_)
  have h1 : t.length ≤ 400 := by simp at h1; omega
  have hc := root_ok t ht hn
  unfold treeAg at hc
  simp only [Sub.ow, Sub.obs] at hc
  refine callq_of false [] hc rfl trivial (vc trivial) ?_
  rintro r out ⟨rfl, rfl⟩
  refine ⟨by simp, by simp, by simp, vc ?_⟩
  refine brB_intro (fun h2 => hno _ (fun e => by rw [e.2.1] at h2; cases h2)) (fun h2 => ?_)
  have h2 : (rootT t).2 = true := by simpa using h2
  have hf := full_ok (rootT t).1.sz (rootT t).1 true (Nat.le_refl _) hsz
  unfold Sub.rd at hf
  refine callq_of true [] hf rfl trivial (vc trivial) ?_
  rintro r out ⟨rfl, rfl⟩
  refine ⟨by simp, by simp, fun _ => ⟨.v _, by simp⟩, vc ?_⟩
  refine brB_intro (fun h3 => hno _ (fun e => by rw [e.2.2.1] at h3; cases h3)) (fun h3 => ?_)
  have h3 : (rootT t).1.full true = true := by simpa using h3
  have hd := (deep_ok (rootT t).1.sz (rootT t).1 (Nat.le_refl _) hsz).2
  unfold Sub.rd at hd
  refine callq_of true [] hd rfl trivial (vc trivial) ?_
  rintro r out ⟨rfl, rfl⟩
  refine ⟨by simp, by simp, fun _ => ⟨.v _, by simp⟩, vc ?_⟩
  refine brB_intro (fun h4 => hno _ (fun e => by have := e.2.2.2.1; simp at h4; omega)) (fun h4 => ?_)
  have h4 : 0 ≤ (rootT t).1.deep := by simpa using h4
  have hp := pairs_ok (rootT t).1.sz (rootT t).1 (Nat.le_refl _) hsz hps
  unfold Sub.rd at hp
  refine callq_of true [] hp rfl trivial (vc trivial) ?_
  rintro r out ⟨rfl, rfl⟩
  refine ⟨by simp, by simp, ?_, vc ?_⟩
  · exact fun _ => ⟨.sl 1 _ (by omega) (by simp), by intro ob h; simp at h; subst h; exact .inr (own_pr _)⟩
  refine callq_of true [] (specPairsOk_ok (rootT t).1.pairs hps) rfl trivial (vc trivial) ?_
  rintro r out ⟨rfl, rfl⟩
  refine ⟨by simp, by simp, fun _ => ⟨.v _, by simp⟩, vc ?_⟩
  refine brB_intro (fun h5 => hno _ (fun e => by rw [tf_true e.2.2.2.2.1] at h5; cases h5)) (fun h5 => ?_)
  have h5 : pairsOk (rootT t).1.pairs := by
    by_cases e : pairsOk (rootT t).1.pairs
    · exact e
    · rw [tf_false e] at h5; cases h5
  have hl := lay0_ok (rootT t).1 hsz hps
  unfold Sub.rd at hl
  refine callq_of true [] hl rfl trivial (vc trivial) ?_
  rintro r out ⟨rfl, rfl⟩
  refine ⟨by simp, by simp, ?_, vc ?_⟩
  · exact fun _ => ⟨.sl 1 _ (by omega) (by simp), by intro ob h; simp at h; subst h; exact .inr (own_nd _)⟩
  refine brB_intro (fun h6 => hno _ (fun e => by rw [e.2.2.2.2.2] at h6; simp at h6)) (fun h6 => ?_)
  have h6 : (layT [] (rootT t).1).length = t.length := by simp at h6; omega
  generalize hL : layT [] (rootT t).1 = L at *
  refine loopQ_of (fun i => [(1, .pt 1 0 0), (5, .sl 2 L.length), (47, In L.length), (48, In (i : Nat))]) (fun i => [(1, .box 57 [Rw (t.map (ndC false))]), (2, .rw 125 3 (L.map (ndC true)))]) 3 (fun i => L.length - i) (fun i => i ≤ L.length ∧ L.take i = t.take i) 0 ⟨Nat.zero_le _, rfl⟩ [(2, 297)] (by rfl) (vc ?_) (vc ?_) (fun i hi N hN => vc (brB_intro (fun h => ?_) (fun h => ?_)))
  · trivial
  · trivial
  · have h : i < L.length := by simpa using h
    have hx := List.getElem?_eq_getElem h
    have hy := List.getElem?_eq_getElem (show i < t.length by omega)
    refine drawQ_of false (by rfl) (by simp) (vc ?_)
    refine ⟨h, ?_⟩
    rw [get_map hx, ndC]
    refine vc ?_
    rw [get_map hy, ndC]
    refine vc ?_
    have hs := sameNode_ok L[i] t[i] (hly _ (List.getElem_mem h)) (hn _ (List.getElem_mem (show i < t.length by omega)))
    unfold Nd.rd at hs
    refine calld_of [] true [] hs rfl trivial (vc trivial) (by rfl) ⟨_, _, rfl, rfl⟩ ?_
    rintro r out ⟨rfl, rfl⟩
    refine ⟨by simp, by simp, fun _ => ⟨.v _, by simp⟩, vc ?_⟩
    refine brB_intro (fun hb => hno _ (fun e => ?_)) (fun hb => ?_)
    · have e2 := e.2.2.2.2.2
      subst e2
      simp at hb
    · have hb : L[i] = t[i] := by simpa using hb
      refine hN _ (i + 1) [] ⟨h, take_next hi.2 hx hy hb⟩ (by omega) (by rfl) (vc ?_) (vc trivial)
      rw [w64 _ (by omega)]; simp
  · have h : i = L.length := by simp at h; omega
    refine EndQ.closed (.v _) ⟨?_, rfl⟩
    have e : L = t := by have := hi.2; rwa [h, List.take_length, h6, List.take_length] at this
    rw [tf_true (.inr ⟨h1, h2, h3, h4, h5, by rw [hL]; exact e⟩)]
end Go.Proofs.Ytnnmpdanfeejbaa.Abs

/- What is read of a tree: its size. -/
namespace Go.Proofs.Ytnnmpdanfeejbaa.Abs
open Go Go.Proofs
set_option maxRecDepth 10000
set_option linter.unusedVariables false
set_option linter.unusedSimpArgs false
theorem rdT_size (t : List Nd) (b : Nat) (hb : ∀ x ∈ t, x.ps.length ≤ b) : ∀ (f : Nat) (a : Int) (s : Sub) (nx : Int), rdT t f a = some (s, nx) → 0 ≤ a ∧ nx = a + s.sz ∧ nx ≤ t.length ∧ s.pairs.length ≤ b * s.sz
  | 0, a, s, nx, h => by rw [rdT] at h; cases h
  | f + 1, a, s, nx, h => by
    rw [rdT] at h
    split at h
    · cases h
    rename_i hc
    have ha : 0 ≤ a := by omega
    obtain ⟨a, rfl⟩ : ∃ k : Nat, a = k := ⟨a.toNat, by omega⟩
    have h2 : a < t.length := by omega
    rw [Int.toNat_natCast, List.getElem?_eq_getElem h2, Option.getD_some] at h
    have hk : ∀ (cs : List Int) (m : Int) (ks : List Sub) (nx : Int), m ≤ t.length → rdT.rdK (rdT t f) cs m = some (ks, nx) → nx = m + Sub.szL ks ∧ nx ≤ t.length ∧ (Sub.pairsL ks).length ≤ b * Sub.szL ks := by
      intro cs
      induction cs with
      | nil => intro m ks nx hm h; rw [rdT.rdK] at h; cases h; simp [Sub.szL, Sub.pairsL, hm]
      | cons k r ih =>
        intro m ks nx hm h
        rw [rdT.rdK] at h
        split at h
        · rename_i hk
          subst hk
          cases hr : rdT t f k with
          | none => rw [hr] at h; cases h
          | some x =>
            obtain ⟨x, nx1⟩ := x
            obtain ⟨g1, g2, g3, g4⟩ := rdT_size t b hb f k x nx1 hr
            rw [hr, Option.bind_some] at h
            cases hr2 : rdT.rdK (rdT t f) r nx1 with
            | none => simp only [hr2] at h; cases h
            | some y =>
              obtain ⟨y, nx2⟩ := y
              simp only [hr2, Option.map_some, Option.some.injEq, Prod.mk.injEq] at h
              obtain ⟨rfl, rfl⟩ := h
              obtain ⟨q1, q2, q3⟩ := ih nx1 y nx2 g3 hr2
              refine ⟨?_, q2, ?_⟩
              · rw [Sub.szL]; omega
              · rw [Sub.pairsL, Sub.szL, List.length_append, Nat.mul_add]; omega
        · cases h
    cases hr : rdT.rdK (rdT t f) t[a].cs (a + 1) with
    | none => rw [hr] at h; cases h
    | some y =>
      obtain ⟨y, nx2⟩ := y
      rw [hr] at h
      simp only [Option.map_some, Option.some.injEq, Prod.mk.injEq] at h
      obtain ⟨rfl, rfl⟩ := h
      obtain ⟨q1, q2, q3⟩ := hk _ _ _ _ (by omega) hr
      refine ⟨by omega, ?_, q2, ?_⟩
      · rw [Sub.sz]; omega
      · rw [Sub.pairs, Sub.sz, List.length_append, Nat.mul_add]
        have := hb _ (List.getElem_mem h2)
        omega
theorem rootT_size (t : List Nd) (b : Nat) (hb : ∀ x ∈ t, x.ps.length ≤ b) : (rootT t).1.sz ≤ t.length + 1 ∧ (rootT t).1.pairs.length ≤ b * t.length := by
  have h0 : ∀ l : Bool, (Sub.mk l [] []).sz = 1 ∧ (Sub.mk l [] []).pairs.length = 0 := fun l => by rw [Sub.sz, Sub.pairs]; simp [Sub.szL, Sub.pairsL]
  unfold rootT
  split
  · simp only [h0]; omega
  · cases hr : rdT t 13 0 with
    | none => simp only [h0]; omega
    | some x =>
      obtain ⟨s, nx⟩ := x
      obtain ⟨g1, g2, g3, g4⟩ := rdT_size t b hb 13 0 s nx hr
      have : s.sz ≤ t.length := by omega
      refine ⟨by show s.sz ≤ _; omega, ?_⟩
      show s.pairs.length ≤ _
      exact Nat.le_trans g4 (Nat.mul_le_mul_left b (by omega))
mutual
theorem Sub.lay_le : ∀ (s : Sub) (a : Nat), ∀ x ∈ s.lay a, x.ps.length ≤ s.pairs.length ∧ x.ks.length ≤ s.sz ∧ x.cs.length ≤ s.sz
  | .mk l ps ks, a, x, hx => by
    rw [Sub.lay] at hx
    rw [Sub.pairs, Sub.sz, List.length_append]
    split at hx
    · simp at hx; subst hx; simp
    · rcases List.mem_cons.1 hx with rfl | hx
      · have := Sub.szL_len ks
        have h1 := Sub.plcs_len ks (a + 1)
        have h2 : (Sub.leasts ks).length = ks.length := by rw [Sub.leasts_eq, List.length_map]
        simp only [List.length_nil, List.length_drop]
        omega
      · have := Sub.layL_le ks (a + 1) x hx
        omega
theorem Sub.layL_le : ∀ (l : List Sub) (a : Nat), ∀ x ∈ Sub.layL a l, x.ps.length ≤ (Sub.pairsL l).length ∧ x.ks.length ≤ Sub.szL l ∧ x.cs.length ≤ Sub.szL l
  | [], a, x, hx => by rw [Sub.layL] at hx; simp at hx
  | y :: r, a, x, hx => by
    rw [Sub.layL] at hx
    rw [Sub.pairsL, Sub.szL, List.length_append]
    rcases List.mem_append.1 hx with hx | hx
    · have := Sub.lay_le y a x hx; omega
    · have := Sub.layL_le r _ x hx; omega
end
/-- A list of nodes of a moderate size. -/
def small (t : List Nd) : Prop := t.length ≤ 2^20 ∧ ∀ x ∈ t, x.fits (2^20)
theorem small_ok {t : List Nd} (h : small t) : (t.length ≤ 2^40 ∧ ∀ x ∈ t, x.le (2^40)) ∧ (rootT t).1.sz ≤ 2^40 ∧ (rootT t).1.pairs.length ≤ 2^40 ∧ ∀ x ∈ layT [] (rootT t).1, x.le (2^40) := by
  have h1 := rootT_size t (2^20) (fun x hx => (h.2 x hx).1)
  have h2 := h.1
  have h3 : (rootT t).1.pairs.length ≤ 2^40 := Nat.le_trans h1.2 (Nat.le_trans (Nat.mul_le_mul_left _ h2) (by decide))
  refine ⟨⟨by omega, fun x hx => ?_⟩, by omega, h3, fun x hx => ?_⟩
  · obtain ⟨g1, g2, g3, _⟩ := h.2 x hx
    exact ⟨by omega, by omega, by omega⟩
  · have := Sub.lay_le _ _ x hx
    exact ⟨by omega, by omega, by omega⟩
theorem specTreeOk_small {t : List Nd} (h : small t) : CallOk Try.prog 28 [] [treeAg t] (fun r out => r = Bo (tf (specOk t)) ∧ out = []) := by
  obtain ⟨⟨h1, h2⟩, h3, h4, h5⟩ := small_ok h
  exact specTreeOk_ok t h1 h2 h3 h4 h5
end Go.Proofs.Ytnnmpdanfeejbaa.Abs

/- The reference: how deep, all pairs, one pair. -/
namespace Go.Proofs.Ytnnmpdanfeejbaa.Abs
open Go Go.Proofs
set_option maxRecDepth 10000
set_option linter.unusedVariables false
set_option linter.unusedSimpArgs false
noncomputable def specDepth (t : List Nd) : Int := if tf (specOk t) = true then (if t.length = 0 then 0 else (rootT t).1.deep) else -1
noncomputable def specAll (t : List Nd) : List Pr := if tf (specOk t) = true then (rootT t).1.pairs else []
theorem specDepth_ok {t : List Nd} (hs : small t) : CallOk Try.prog 32 [] [treeAg t] (fun r out => r = In (specDepth t) ∧ out = []) := by
  obtain ⟨⟨h1, h2⟩, h3, h4, h5⟩ := small_ok hs
  have hc := specTreeOk_small hs
  unfold treeAg at hc ⊢
  refine callOk_z (np := 0) {} mixed Try.func32 (by rfl) Try.ntmps32 Try.results32 (by rfl) (Nat.le_of_ble_eq_true rfl) rfl rfl rfl (vc ?_)
  refine callq_of false [] hc rfl trivial (vc trivial) ?_
  rintro r out ⟨rfl, rfl⟩
  refine ⟨by simp, by simp, by simp, vc ?_⟩
  unfold specDepth
  refine brB_intro (fun h => EndQ.closed (.v _) ⟨?_, rfl⟩) (fun h => brB_intro (fun h0 => EndQ.closed (.v _) ⟨?_, rfl⟩) (fun h0 => ?_))
  · rw [if_neg (by simpa using h)]
  · rw [if_pos (by simpa using h), if_pos (by simp at h0; simp [h0])]
  rw [if_pos (by simpa using h), if_neg (fun e => by simp [List.length_eq_zero_iff.1 e] at h0)]
  have hr := root_ok t h1 h2
  unfold treeAg at hr
  simp only [Sub.ow, Sub.obs] at hr
  refine callq_of false [] hr rfl trivial (vc trivial) ?_
  rintro r out ⟨rfl, rfl⟩
  refine ⟨by simp, by simp, by simp, vc ?_⟩
  have hd := (deep_ok (rootT t).1.sz (rootT t).1 (Nat.le_refl _) h3).2
  unfold Sub.rd at hd
  refine callq_of true [] hd rfl trivial (vc trivial) ?_
  rintro r out ⟨rfl, rfl⟩
  refine ⟨by simp, by simp, fun _ => ⟨.v _, by simp⟩, vc ?_⟩
  exact EndQ.closed (.v _) ⟨rfl, rfl⟩
theorem specAll_ok {t : List Nd} (hs : small t) : CallOk Try.prog 42 [] [treeAg t] (fun r out => r = .sl 1 (specAll t).length ∧ out = [some (.rw 133 2 ((specAll t).map prC))]) := by
  obtain ⟨⟨h1, h2⟩, h3, h4, h5⟩ := small_ok hs
  have hc := specTreeOk_small hs
  unfold treeAg at hc ⊢
  refine callOk_z (np := 0) {} mixed Try.func42 (by rfl) Try.ntmps42 Try.results42 (by rfl) (Nat.le_of_ble_eq_true rfl) rfl rfl rfl (vc ?_)
  refine callq_of false [] hc rfl trivial (vc trivial) ?_
  rintro r out ⟨rfl, rfl⟩
  refine ⟨by simp, by simp, by simp, vc ?_⟩
  unfold specAll
  refine brB_intro (fun h => ?_) (fun h => ?_)
  · rw [if_neg (by simpa using h)]
    exact endQ_of [(1, 0)] (.sl 1 0) [some (.rw 133 2 [])] (by rfl) (vc trivial) (vc trivial) ⟨rfl, rfl⟩
  rw [if_pos (by simpa using h)]
  have hr := root_ok t h1 h2
  unfold treeAg at hr
  simp only [Sub.ow, Sub.obs] at hr
  refine callq_of false [] hr rfl trivial (vc trivial) ?_
  rintro r out ⟨rfl, rfl⟩
  refine ⟨by simp, by simp, by simp, vc ?_⟩
  have hp := pairs_ok (rootT t).1.sz (rootT t).1 (Nat.le_refl _) h3 h4
  unfold Sub.rd at hp
  refine callq_of true [] hp rfl trivial (vc trivial) ?_
  rintro r out ⟨rfl, rfl⟩
  refine ⟨by simp, by simp, ?_, vc ?_⟩
  · exact fun _ => ⟨.sl 1 _ (by omega) (by simp), by intro ob h; simp at h; subst h; exact .inr (own_pr _)⟩
  exact endQ_of [(1, 113)] (.sl 1 (rootT t).1.pairs.length) [some (.rw 133 2 ((rootT t).1.pairs.map prC))] (by rfl) (vc trivial) (vc trivial) ⟨rfl, rfl⟩
/-- The first pair with a key. -/
def getL (k : ByteArray) : List Pr → ByteArray × Bool
  | [] => (⟨#[]⟩, false)
  | p :: r => if p.k = k then (p.v, true) else getL k r
theorem specAll_len {t : List Nd} (hs : small t) : (specAll t).length ≤ 2^40 := by
  unfold specAll
  split
  · exact (small_ok hs).2.2.1
  · simp
noncomputable def specGet (t : List Nd) (k : ByteArray) : ByteArray × Bool := if tf (keyOk k) = true then getL k (specAll t) else (⟨#[]⟩, false)
theorem specGet_ok {t : List Nd} (hs : small t) (k : ByteArray) : CallOk Try.prog 34 [] [treeAg t, .c (.v (.string k))] (fun r out => r = .tu [.c (.v (.string (specGet t k).1)), Bo (specGet t k).2] ∧ out = []) := by
  have hl := specAll_len hs
  have hc := specAll_ok hs
  unfold treeAg at hc ⊢
  refine callOk_z (np := 0) {} mixed Try.func34 (by rfl) Try.ntmps34 Try.results34 (by rfl) (Nat.le_of_ble_eq_true rfl) rfl rfl rfl (vc ?_)
  refine callq_of false [] (specKeyOk_ok k) rfl trivial (vc trivial) ?_
  rintro r out ⟨rfl, rfl⟩
  refine ⟨by simp, by simp, by simp, vc ?_⟩
  unfold specGet
  refine brB_intro (fun h => ?_) (fun h => ?_)
  · rw [if_neg (by simpa using h)]
    exact endQ_of [] (.tu [.c (.v (.string ⟨#[]⟩)), Bo false]) [] (by rfl) (vc trivial) (vc trivial) ⟨rfl, rfl⟩
  rw [if_pos (by simpa using h)]
  refine callq_of false [] hc rfl trivial (vc trivial) ?_
  rintro r out ⟨rfl, rfl⟩
  refine ⟨by simp, by simp, by simp, vc ?_⟩
  generalize specAll t = l at *
  refine loopQ_of (fun i => [(1, .c (.v (.string k))), (12, .sl 1 l.length), (13, In l.length), (14, In (i : Nat))]) (fun i => [(1, .rw 133 2 (l.map prC))]) 2 (fun i => l.length - i) (fun i => i ≤ l.length ∧ getL k l = getL k (l.drop i)) 0 ⟨Nat.zero_le _, rfl⟩ [(1, 57)] (by rfl) (vc trivial) (vc trivial) (fun i hi N hN => vc (brB_intro (fun h => ?_) (fun h => ?_)))
  · have h : i < l.length := by simpa using h
    have hx := List.getElem?_eq_getElem h
    have hL := hi.2
    rw [List.drop_eq_getElem_cons h, getL] at hL
    refine ⟨h, ?_⟩
    rw [get_map hx, prC]
    refine vc (brB_intro (fun hb => ?_) (fun hb => ?_))
    · have hb : l[i].k = k := ba_ext (by simpa using hb)
      rw [hL, if_pos hb]
      exact endQ_of [] (.tu [.c (.v (.string l[i].v)), Bo true]) [] (by rfl) (vc trivial) (vc trivial) ⟨rfl, rfl⟩
    · have hb : ¬ l[i].k = k := fun e => by rw [e] at hb; simp at hb
      rw [if_neg hb] at hL
      refine hN _ (i + 1) [] ⟨h, hL⟩ (by omega) (by rfl) (vc ?_) (vc trivial)
      rw [w64 _ (by omega)]; simp
  · have h : i = l.length := by have := hi.1; simp at h; omega
    have hL := hi.2
    rw [List.drop_of_length_le (by omega), getL] at hL
    rw [hL]
    exact endQ_of [] (.tu [.c (.v (.string ⟨#[]⟩)), Bo false]) [] (by rfl) (vc trivial) (vc trivial) ⟨rfl, rfl⟩
end Go.Proofs.Ytnnmpdanfeejbaa.Abs

/- The program's trees within: leaf, least, all. -/
namespace Go.Proofs.Ytnnmpdanfeejbaa.Abs
open Go Go.Proofs
set_option maxRecDepth 10000
set_option linter.unusedVariables false
set_option linter.unusedSimpArgs false
mutual
/-- A twig's cells. -/
def twC : Sub → List CV
  | .mk _ ps ks => [.row false (ps.map prC), .row false (twL ks)]
def twL : List Sub → List (List CV)
  | [] => []
  | x :: r => [.ptr (twC x) 0] :: twL r
end
theorem twL_map : ∀ l : List Sub, twL l = l.map fun x => [.ptr (twC x) 0]
  | [] => by rw [twL]; rfl
  | x :: r => by rw [twL, twL_map r]; rfl
theorem twC_eq (s : Sub) : twC s = [.row false (s.ps.map prC), .row false (s.ks.map fun x => [.ptr (twC x) 0])] := by
  cases s; rw [twC, twL_map]; rfl
def Sub.tw (s : Sub) : AV := .c (.ptr (twC s) 0)
theorem isLeaf_ok (s : Sub) : CallOk Try.prog 163 [] [s.tw] (fun r out => r = Bo (decide (s.ks.length = 0)) ∧ out = []) := by
  unfold Sub.tw
  rw [twC_eq]
  refine callOk_z (np := 0) {} mixed Try.func163 (by rfl) Try.ntmps163 Try.results163 (by rfl) (Nat.le_of_ble_eq_true rfl) rfl rfl rfl (vc ?_)
  refine EndQ.closed (.v _) ⟨?_, rfl⟩
  have : (((s.ks.length : Nat) : Int) == 0) = decide (s.ks.length = 0) := by rw [Bool.eq_iff_iff]; simp
  rw [this]
mutual
/-- The pairs of the leaf that lies leftmost. -/
def Sub.lmost : Sub → List Pr
  | .mk _ ps ks => (Sub.lmostL ks).getD ps
def Sub.lmostL : List Sub → Option (List Pr)
  | [] => none
  | x :: _ => some x.lmost
end
theorem Sub.lmost_eq (s : Sub) : s.lmost = match s.ks with | [] => s.ps | x :: _ => x.lmost := by
  obtain ⟨l, ps, ks⟩ := s
  rw [Sub.lmost]
  cases ks with
  | nil => rw [Sub.lmostL]; rfl
  | cons x r => rw [Sub.lmostL]; rfl
theorem twLeast_ok (s : Sub) (hs : s.lmost ≠ []) : CallOk Try.prog 152 [] [.c (.ptr (twC s) 0)] (fun r out => r = .c (.v (.string (fstK s.lmost))) ∧ out = []) := by
  refine callOk_z (np := 0) {} mixed Try.func152 (by rfl) Try.ntmps152 Try.results152 (by rfl) (Nat.le_of_ble_eq_true rfl) rfl rfl rfl (vc ?_)
  refine loopQ_of (ι := Sub) (fun x => [(0, .c (.ptr (twC x) 0))]) (fun x => []) 1 (fun x => x.sz) (fun x => x.lmost = s.lmost) s rfl [] (by rfl) (vc trivial) (vc trivial) (fun x hx N hN => vc ?_)
  have hl := isLeaf_ok x
  unfold Sub.tw at hl
  refine callq_of false [] hl rfl trivial (vc trivial) ?_
  rintro r out ⟨rfl, rfl⟩
  refine ⟨by simp, by simp, by simp, vc ?_⟩
  obtain ⟨l, ps, ks⟩ := x
  rw [Sub.lmost_eq] at hx
  rw [twC_eq]
  simp only [Sub.ps, Sub.ks] at hx ⊢
  cases ks with
  | nil =>
    refine brB_intro (fun h => by simp at h) (fun h => vc ?_)
    cases ps with
    | nil => exact absurd hx.symm hs
    | cons p r =>
      rw [List.map_cons, prC]
      refine vc ?_
      refine EndQ.closed (.v _) ⟨?_, rfl⟩
      rw [← hx]; rfl
  | cons y r =>
    refine brB_intro (fun h => vc ?_) (fun h => by simp at h)
    refine hN _ y [] hx (Sub.sz_kid (s := .mk l ps (y :: r)) (List.mem_cons_self ..)) (by rfl) (vc trivial) (vc trivial)
end Go.Proofs.Ytnnmpdanfeejbaa.Abs

/- The program's trees within: all pairs. -/
namespace Go.Proofs.Ytnnmpdanfeejbaa.Abs
open Go Go.Proofs
set_option maxRecDepth 10000
set_option linter.unusedVariables false
set_option linter.unusedSimpArgs false
mutual
/-- All pairs, as the program gathers them. -/
def Sub.gath : Sub → List Pr
  | .mk _ ps ks => Sub.gathL ks ++ ps
def Sub.gathL : List Sub → List Pr
  | [] => []
  | x :: r => x.gath ++ Sub.gathL r
end
theorem Sub.gath_eq (s : Sub) : s.gath = Sub.gathL s.ks ++ s.ps := by cases s; rw [Sub.gath]; rfl
theorem Sub.gathL_app (a b : List Sub) : Sub.gathL (a ++ b) = Sub.gathL a ++ Sub.gathL b := by
  induction a with
  | nil => rfl
  | cons x r ih => rw [List.cons_append, Sub.gathL, Sub.gathL, ih, List.append_assoc]
theorem Sub.gathL_next {l : List Sub} {i : Nat} {x : Sub} (h : l[i]? = some x) : Sub.gathL (l.take (i + 1)) = Sub.gathL (l.take i) ++ x.gath := by
  rw [List.take_add_one, h, Sub.gathL_app]; simp [Sub.gathL]
theorem all_ok : ∀ (n : Nat) (s : Sub) (acc : List Pr), s.sz ≤ n → s.sz ≤ 2^40 → acc.length + s.gath.length ≤ 2^40 → CallOk Try.prog 132 [.rw 133 2 (acc.map prC)] [.c (.ptr (twC s) 0), .sl 1 acc.length] (fun r out => r = .sl 2 (acc ++ s.gath).length ∧ out = [none, some (.rw 133 2 ((acc ++ s.gath).map prC))]) := by
  intro n
  induction n with
  | zero => intro s acc hs; cases s; rw [Sub.sz] at hs; omega
  | succ n ih =>
    intro s acc hs hk hp
    rw [twC_eq, Sub.gath_eq] at *
    have hkl := s.ks_len
    refine callOk_z (np := 1) {} mixed Try.func132 (by rfl) Try.ntmps132 Try.results132 (by rfl) (Nat.le_of_ble_eq_true rfl) rfl rfl rfl (vc ?_)
    rw [List.length_append] at hp
    refine loopQ_of (fun i => [(0, .c (.ptr [.row false (s.ps.map prC), .row false (s.ks.map fun x => [.ptr (twC x) 0])] 0)), (1, .sl 2 (acc ++ Sub.gathL (s.ks.take i)).length), (10, Rw (s.ks.map fun x => [.ptr (twC x) 0])), (11, In s.ks.length), (12, In (i : Nat))]) (fun i => [(2, .rw 133 2 ((acc ++ Sub.gathL (s.ks.take i)).map prC))]) 3 (fun i => s.ks.length - i) (fun i => i ≤ s.ks.length) 0 (Nat.zero_le _) [(2, 1)] (by rfl) (vc ?_) (vc ?_) (fun i hi N hN => vc (brB_intro (fun h => ?_) (fun h => ?_)))
    · simp [Sub.gathL]
    · simp [Sub.gathL]
    · have h : i < s.ks.length := by simpa using h
      have hx := List.getElem?_eq_getElem h
      have hm := List.getElem_mem h
      have hnx := Sub.gathL_next hx
      have hle : (Sub.gathL (s.ks.take (i + 1))).length ≤ (Sub.gathL s.ks).length := by
        conv => rhs; rw [← List.take_append_drop (i + 1) s.ks, Sub.gathL_app]
        rw [List.length_append]; omega
      rw [hnx, List.length_append] at hle
      rw [get_map hx]
      refine vc ?_
      have hc := ih s.ks[i] (acc ++ Sub.gathL (s.ks.take i)) (by have := Sub.sz_kid hm; omega) (by have := Sub.sz_kid hm; omega) (by rw [List.length_append]; omega)
      refine callq_of false [2] hc rfl (vc trivial) (vc trivial) ?_
      rintro r out ⟨rfl, rfl⟩
      refine ⟨by simp, by simp, by simp, vc ?_⟩
      refine hN _ (i + 1) [(2, 51)] h (by omega) (by rfl) (vc ?_) (vc ?_)
      · rw [hnx, w64 _ (by omega)]; simp
      · rw [hnx]; simp
    · have h : i = s.ks.length := by simp at h; omega
      subst h
      rw [List.take_length]
      refine ⟨⟨by unfold maxLen; simp; omega, by simp; omega⟩, ?_⟩
      refine endQ_of [(2, 51)] (.sl 2 (acc ++ (Sub.gathL s.ks ++ s.ps)).length) [none, some (.rw 133 2 ((acc ++ (Sub.gathL s.ks ++ s.ps)).map prC))] (by rfl) (vc ?_) (vc ?_) ⟨rfl, rfl⟩
      · simp; omega
      · simp
theorem all0_ok (s : Sub) (hk : s.sz ≤ 2^40) (hp : s.gath.length ≤ 2^40) : CallOk Try.prog 132 [] [.c (.ptr (twC s) 0), .nul] (fun r out => r = .sl 1 s.gath.length ∧ out = [some (.rw 133 2 (s.gath.map prC))]) := by
  rw [twC_eq, Sub.gath_eq] at *
  have hkl := s.ks_len
  refine callOk_z (np := 0) {} mixed Try.func132 (by rfl) Try.ntmps132 Try.results132 (by rfl) (Nat.le_of_ble_eq_true rfl) rfl rfl rfl (vc ?_)
  rw [List.length_append] at hp
  refine loopQ_of (fun i => [(0, .c (.ptr [.row false (s.ps.map prC), .row false (s.ks.map fun x => [.ptr (twC x) 0])] 0)), (1, .sl 1 (Sub.gathL (s.ks.take i)).length), (10, Rw (s.ks.map fun x => [.ptr (twC x) 0])), (11, In s.ks.length), (12, In (i : Nat))]) (fun i => [(1, .rw 133 2 ((Sub.gathL (s.ks.take i)).map prC))]) 2 (fun i => s.ks.length - i) (fun i => i ≤ s.ks.length) 0 (Nat.zero_le _) [(1, 0)] (by rfl) (vc ?_) (vc ?_) (fun i hi N hN => vc (brB_intro (fun h => ?_) (fun h => ?_)))
  · simp [Sub.gathL]
  · simp [Sub.gathL]
  · have h : i < s.ks.length := by simpa using h
    have hx := List.getElem?_eq_getElem h
    have hm := List.getElem_mem h
    have hnx := Sub.gathL_next hx
    have hle : (Sub.gathL (s.ks.take (i + 1))).length ≤ (Sub.gathL s.ks).length := by
      conv => rhs; rw [← List.take_append_drop (i + 1) s.ks, Sub.gathL_app]
      rw [List.length_append]; omega
    rw [hnx, List.length_append] at hle
    rw [get_map hx]
    refine vc ?_
    have hc := all_ok s.ks[i].sz s.ks[i] (Sub.gathL (s.ks.take i)) (Nat.le_refl _) (by have := Sub.sz_kid hm; omega) (by omega)
    refine callq_of false [1] hc rfl (vc trivial) (vc trivial) ?_
    rintro r out ⟨rfl, rfl⟩
    refine ⟨by simp, by simp, by simp, vc ?_⟩
    refine hN _ (i + 1) [(1, 50)] h (by omega) (by rfl) (vc ?_) (vc ?_)
    · rw [hnx, w64 _ (by omega)]; simp
    · rw [hnx]
  · have h : i = s.ks.length := by simp at h; omega
    subst h
    rw [List.take_length]
    refine ⟨⟨by unfold maxLen; omega, by omega⟩, ?_⟩
    refine endQ_of [(1, 50)] (.sl 1 ((Sub.gathL s.ks ++ s.ps)).length) [some (.rw 133 2 (((Sub.gathL s.ks ++ s.ps)).map prC))] (by rfl) (vc ?_) (vc ?_) ⟨rfl, rfl⟩
    · simp
    · simp
end Go.Proofs.Ytnnmpdanfeejbaa.Abs

/- The program's trees within, pure: what is grown of nodes, and that both sides call the same trees right. -/
namespace Go.Proofs.Ytnnmpdanfeejbaa.Abs
open Go Go.Proofs
set_option maxRecDepth 10000
set_option linter.unusedVariables false
set_option linter.unusedSimpArgs false
/-- What is grown of the nodes from a place on: the sub, the place behind it, how far the leaves are. -/
def gK (rd : Int → Option (Sub × Int × Int)) : List Int → List ByteArray → Bool → Int → Int → Option (List Sub × Int × Int)
  | [], _, _, nx, d => some ([], nx, d)
  | k :: r, ks, first, nx, d => if k = nx then (rd k).bind fun x => if first = false ∧ (x.2.2 ≠ d ∨ ks.head? ≠ some (fstK x.1.lmost)) then none else (gK rd r ks.tail false x.2.1 x.2.2).map fun y => (x.1 :: y.1, y.2) else none
def gN (rd : Int → Option (Sub × Int × Int)) (n : Nd) (a : Int) (root : Bool) : Option (Sub × Int × Int) :=
  if n.cs.length = 0 then (if (if root = true then 1 else 2) ≤ n.ps.length ∧ n.ps.length ≤ 4 ∧ n.ks.length = 0 then some (.mk true n.ps [], a + 1, 1) else none)
  else if (2 ≤ n.cs.length ∧ n.cs.length ≤ 4) ∧ n.ks.length + 1 = n.cs.length ∧ n.ps.length = 0 then (gK rd n.cs (⟨#[]⟩ :: n.ks) true (a + 1) 0).map fun x => (.mk false [] x.1, x.2.1, x.2.2 + 1) else none
def gT (t : List Nd) : Nat → Int → Bool → Option (Sub × Int × Int)
  | 0, _, _ => none
  | f + 1, a, root => if (t.length : Int) ≤ a then none else gN (fun k => gT t f k false) (t[a.toNat]?.getD default) a root
mutual
/-- A leaf has no kids. -/
def Sub.wf : Sub → Prop
  | .mk l _ ks => (l = true → ks = []) ∧ Sub.wfL ks
def Sub.wfL : List Sub → Prop
  | [] => True
  | x :: r => x.wf ∧ Sub.wfL r
end
/-- These nodes lie in the tree from a place on. -/
def At (t : List Nd) : Nat → List Nd → Prop
  | _, [] => True
  | a, x :: l => t[a]? = some x ∧ At t (a + 1) l
theorem At_app {t : List Nd} : ∀ {l m : List Nd} {a : Nat}, At t a (l ++ m) ↔ At t a l ∧ At t (a + l.length) m
  | [], m, a => by simp [At]
  | x :: l, m, a => by
    rw [List.cons_append, At, At, At_app, List.length_cons, and_assoc, show a + 1 + l.length = a + (l.length + 1) by omega]
theorem At_len {t : List Nd} : ∀ {l : List Nd} {a : Nat}, At t a l → l = [] ∨ a + l.length ≤ t.length
  | [], a, _ => .inl rfl
  | x :: l, a, h => by
    have h1 : a < t.length := (List.getElem?_eq_some_iff.1 h.1).1
    refine .inr ?_
    rcases At_len h.2 with e | e
    · subst e; simp; omega
    · simp; omega
theorem At_eq {t : List Nd} : ∀ {l : List Nd} {a : Nat}, At t a l → a + l.length = t.length → l = t.drop a
  | [], a, _, e => by simp at e; rw [List.drop_of_length_le (by omega)]
  | x :: l, a, h, e => by
    obtain ⟨h1, h2⟩ := List.getElem?_eq_some_iff.1 h.1
    rw [List.drop_eq_getElem_cons h1, h2, ← At_eq h.2 (by simp at e; omega)]
theorem At_self (t : List Nd) : ∀ (a : Nat), At t a (t.drop a)
  | a => by
    by_cases h : a < t.length
    · rw [List.drop_eq_getElem_cons h]
      exact ⟨List.getElem?_eq_getElem h, At_self t (a + 1)⟩
    · rw [List.drop_of_length_le (by omega)]; trivial
  termination_by a => t.length - a
/-- What is known of a grown sub. -/
def gOk (t : List Nd) (a : Nat) (root : Bool) (x : Sub × Int × Int) : Prop :=
  At t a (x.1.lay a) ∧ x.2.1 = ((a + (x.1.lay a).length : Nat) : Int) ∧ x.1.wf ∧ x.1.full root = true ∧ x.1.deep = x.2.2 ∧ 1 ≤ x.2.2 ∧ x.1.lmost ≠ [] ∧ fstK x.1.lmost = x.1.least
theorem gK_sound {t : List Nd} {rd : Int → Option (Sub × Int × Int)} (hrd : ∀ (k : Nat) x, rd k = some x → gOk t k false x) : ∀ (cs : List Int) (ks : List ByteArray) (nx : Nat) (d : Int) (y : List Sub × Int × Int), gK rd cs ks false nx d = some y → ks.length = cs.length → 1 ≤ d →
    y.1.length = cs.length ∧ cs = Sub.plcs nx y.1 ∧ ks = Sub.leasts y.1 ∧ At t nx (Sub.layL nx y.1) ∧ y.2.1 = ((nx + (Sub.layL nx y.1).length : Nat) : Int) ∧ Sub.wfL y.1 ∧ Sub.fullL y.1 = true ∧ Sub.deepL false (d + 1) y.1 = d + 1 ∧ y.2.2 = d := by
  intro cs
  induction cs with
  | nil =>
    intro ks nx d y h hk hd
    simp only [gK, Option.some.injEq] at h
    subst h
    simp at hk
    subst hk
    simp [Sub.plcs, Sub.leasts, Sub.layL, At, Sub.wfL, Sub.fullL, Sub.deepL]
  | cons k r ih =>
    intro ks nx d y h hk hd
    rw [gK] at h
    by_cases e : k = (nx : Int)
    · rw [if_pos e] at h
      subst e
      cases hr : rd (nx : Int) with
      | none => rw [hr] at h; simp at h
      | some x =>
        rw [hr, Option.bind_some] at h
        obtain ⟨g1, g2, g3, g4, g5, g6, g7, g8⟩ := hrd nx x hr
        split at h
        · simp at h
        · rename_i hx
          simp only [true_and, not_or, Decidable.not_not] at hx
          obtain ⟨hx1, hx2⟩ := hx
          obtain ⟨z, hz, rfl⟩ := Option.map_eq_some_iff.1 h
          cases ks with
          | nil => simp at hk
          | cons kk ks =>
            simp only [List.length_cons, List.tail_cons, List.head?_cons, Option.some.injEq] at hk hx2 hz
            rw [g2] at hz
            obtain ⟨i1, i2, i3, i4, i5, i6, i7, i8, i9⟩ := ih ks _ _ z hz (by omega) g6
            rw [hx1] at i8 i9
            refine ⟨by simp [i1], ?_, ?_, ?_, ?_, ⟨g3, i6⟩, ?_, ?_, i9⟩
            · rw [Sub.plcs, ← i2]
            · rw [Sub.leasts, ← i3, hx2, g8]
            · rw [Sub.layL, At_app]; exact ⟨g1, i4⟩
            · rw [i5, Sub.layL, List.length_append]; omega
            · rw [Sub.fullL, g4, i7]; rfl
            · rw [Sub.deepL, g5, hx1, if_neg (by simp; omega)]; exact i8
    · rw [if_neg e] at h; cases h
theorem gN_sound {t : List Nd} {rd : Int → Option (Sub × Int × Int)} (hrd : ∀ (k : Nat) x, rd k = some x → gOk t k false x) {n : Nd} {a : Nat} (hn : t[a]? = some n) {root : Bool} {x : Sub × Int × Int} (h : gN rd n a root = some x) : gOk t a root x := by
  unfold gN at h
  obtain ⟨ps, ks, cs⟩ := n
  simp only at h
  by_cases h0 : cs.length = 0
  · rw [if_pos h0] at h
    by_cases h1 : (if root = true then 1 else 2) ≤ ps.length ∧ ps.length ≤ 4 ∧ ks.length = 0
    · rw [if_pos h1] at h
      cases h
      have hks : ks = [] := List.length_eq_zero_iff.1 h1.2.2
      have hcs : cs = [] := List.length_eq_zero_iff.1 h0
      subst hks hcs
      refine ⟨?_, ?_, ⟨fun _ => rfl, trivial⟩, ?_, ?_, by simp, ?_, ?_⟩
      · rw [Sub.lay, if_pos rfl]; exact ⟨hn, trivial⟩
      · rw [Sub.lay, if_pos rfl]; rfl
      · rw [Sub.full, if_pos rfl]
        cases root <;> simp at h1 ⊢ <;> omega
      · rw [Sub.deep, if_pos rfl]
      · rw [Sub.lmost_eq]
        simp only [Sub.ks, Sub.ps]
        intro e
        rw [e] at h1
        cases root <;> simp at h1
      · rw [Sub.lmost_eq, Sub.least, if_pos rfl]; rfl
    · rw [if_neg h1] at h; cases h
  · rw [if_neg h0] at h
    split at h
    · rename_i h1
      obtain ⟨⟨h1, h2⟩, h3, h4⟩ := h1
      have hps : ps = [] := List.length_eq_zero_iff.1 h4
      subst hps
      obtain ⟨y, hy, rfl⟩ := Option.map_eq_some_iff.1 h
      cases cs with
      | nil => simp at h0
      | cons c cs =>
        rw [gK] at hy
        split at hy
        · rename_i hc
          subst hc
          cases hr : rd ((a : Int) + 1) with
          | none => rw [hr] at hy; simp at hy
          | some x =>
            rw [hr, Option.bind_some, if_neg (by simp)] at hy
            have hr' : rd ((a + 1 : Nat) : Int) = some x := hr
            obtain ⟨g1, g2, g3, g4, g5, g6, g7, g8⟩ := hrd _ x hr'
            obtain ⟨z, hz, rfl⟩ := Option.map_eq_some_iff.1 hy
            simp only [List.length_cons, List.tail_cons] at h1 h2 h3 hz
            rw [g2] at hz
            obtain ⟨i1, i2, i3, i4, i5, i6, i7, i8, i9⟩ := gK_sound hrd _ _ _ _ z hz (by omega) g6
            refine ⟨?_, ?_, ⟨by simp, g3, i6⟩, ?_, ?_, ?_, ?_, ?_⟩
            · rw [Sub.lay, if_neg (by simp)]
              refine ⟨?_, ?_⟩
              · rw [hn, Sub.leasts, Sub.plcs, ← i2, i3]; rfl
              · rw [Sub.layL, At_app]; exact ⟨g1, i4⟩
            · rw [Sub.lay, if_neg (by simp), List.length_cons, Sub.layL, List.length_append]
              simp only [i5]; omega
            · rw [Sub.full, if_neg (by simp), Sub.fullL, g4, i7]; simp; omega
            · rw [Sub.deep, if_neg (by simp), Sub.deepL, g5, if_neg (by simp; omega)]
              simp only [i9]; exact i8
            · simp only [i9]; omega
            · rw [Sub.lmost_eq]; exact g7
            · rw [Sub.lmost_eq, Sub.least, if_neg (by simp)]; exact g8
        · cases hy
    · cases h
theorem gT_sound (t : List Nd) : ∀ (f a : Nat) (root : Bool) (x : Sub × Int × Int), gT t f a root = some x → gOk t a root x := by
  intro f
  induction f with
  | zero => intro a root x h; simp [gT] at h
  | succ f ih =>
    intro a root x h
    rw [gT] at h
    split at h
    · cases h
    · rename_i ha
      have ha : a < t.length := by omega
      rw [Int.toNat_natCast, List.getElem?_eq_getElem ha] at h
      exact gN_sound (fun k x hx => ih k false x hx) (List.getElem?_eq_getElem ha) h
theorem deepL_cons {x : Sub} {r : List Sub} {f : Bool} {d : Int} (h : 0 ≤ Sub.deepL f d (x :: r)) : 0 ≤ x.deep ∧ (f = true ∨ x.deep + 1 = d) ∧ 0 ≤ Sub.deepL false (x.deep + 1) r ∧ Sub.deepL f d (x :: r) = Sub.deepL false (x.deep + 1) r := by
  rw [Sub.deepL] at h ⊢
  split at h
  · omega
  · rename_i hx
    rw [if_neg hx]
    refine ⟨by omega, ?_, h, rfl⟩
    cases f
    · right; simp at hx; omega
    · left; rfl
theorem deepL_all : ∀ {l : List Sub} {d : Int}, 0 ≤ Sub.deepL false d l → Sub.deepL false d l = d ∧ ∀ x ∈ l, x.deep + 1 = d ∧ 0 ≤ x.deep
  | [], d, h => by simp [Sub.deepL]
  | x :: r, d, h => by
    obtain ⟨h1, h2, h3, h4⟩ := deepL_cons h
    have h2 : x.deep + 1 = d := by simpa using h2
    rw [h2] at h3 h4
    obtain ⟨i1, i2⟩ := deepL_all h3
    rw [h4]
    refine ⟨i1, fun y hy => ?_⟩
    rcases List.mem_cons.1 hy with rfl | hy
    · exact ⟨h2, h1⟩
    · exact i2 y hy
theorem Sub.wf_mem {x : Sub} : ∀ {l : List Sub}, Sub.wfL l → x ∈ l → x.wf
  | y :: r, h, hx => by
    rcases List.mem_cons.1 hx with rfl | hx
    · exact h.1
    · exact Sub.wf_mem h.2 hx
/-- Of a sub that is right: what its head says. -/
theorem Sub.head {s : Sub} {root : Bool} (hw : s.wf) (hf : s.full root = true) (hd : 0 ≤ s.deep) :
    (s.leaf = true ∧ s.ks = [] ∧ s.ps ≠ [] ∧ s.deep = 1 ∧ s.ps.length ≤ 4 ∧ (if root = true then 1 else 2) ≤ s.ps.length) ∨
    (s.leaf = false ∧ s.ps = [] ∧ 2 ≤ s.ks.length ∧ s.ks.length ≤ 4 ∧ (∀ x ∈ s.ks, x.wf ∧ x.full false = true ∧ x.deep + 1 = s.deep ∧ 0 ≤ x.deep)) := by
  obtain ⟨l, ps, ks⟩ := s
  simp only [Sub.leaf, Sub.ks, Sub.ps]
  rw [Sub.wf] at hw
  rw [Sub.full] at hf
  rw [Sub.deep] at hd ⊢
  cases l with
  | true =>
    left
    rw [if_pos rfl] at hf ⊢
    have h1 : (if root = true then 1 else 2) ≤ ps.length := by cases root <;> simp at hf ⊢ <;> omega
    refine ⟨rfl, hw.1 rfl, ?_, rfl, ?_, h1⟩
    · intro e; subst e; cases root <;> simp at h1
    · simp at hf; omega
  | false =>
    right
    rw [if_neg (by simp)] at hf hd ⊢
    simp only [Bool.and_eq_true, decide_eq_true_eq] at hf
    obtain ⟨⟨h1, h2, h3⟩, h4⟩ := hf
    refine ⟨rfl, h3, h1, h2, fun x hx => ?_⟩
    have hfx := (Sub.fullL_all ks).1 h4 x hx
    have hwx := Sub.wf_mem hw.2 hx
    cases ks with
    | nil => simp at h1
    | cons y r =>
      obtain ⟨i1, i2, i3, i4⟩ := deepL_cons hd
      obtain ⟨j1, j2⟩ := deepL_all i3
      refine ⟨hwx, hfx, ?_⟩
      rw [i4, j1]
      rcases List.mem_cons.1 hx with rfl | hx
      · exact ⟨rfl, i1⟩
      · exact ⟨(j2 x hx).1, (j2 x hx).2⟩
theorem Sub.facts : ∀ (n : Nat) (s : Sub) (root : Bool), s.sz ≤ n → s.wf → s.full root = true → 0 ≤ s.deep → s.lmost ≠ [] ∧ fstK s.lmost = s.least ∧ 1 ≤ s.deep ∧ s.gath = s.pairs ∧ (root = false ∨ s.leaf = false → s.sz + 1 ≤ s.pairs.length ∧ 2 ^ s.deep.toNat ≤ s.pairs.length) := by
  intro n
  induction n with
  | zero => intro s root hs; have := s.sz_pos; omega
  | succ n ih =>
    intro s root hs hw hf hd
    have hh := Sub.head hw hf hd
    have hk := fun x hx => ih x false (by have := Sub.sz_kid (s := s) (x := x) hx; omega)
    rw [Sub.lmost_eq, Sub.least_eq, Sub.gath_eq, Sub.pairs_eq]
    rcases hh with ⟨h1, h2, h3, h4, h5, h6⟩ | ⟨h1, h2, h3, h4, h5⟩
    · rw [h2, h1, h4]
      refine ⟨h3, by rw [if_pos rfl], by omega, by simp [Sub.gathL, Sub.pairsL], fun h => ?_⟩
      have hr : root = false := by simpa using h
      rw [hr] at h6
      have hsz : s.sz = 1 := by obtain ⟨l, ps, ks⟩ := s; simp only [Sub.ks] at h2; subst h2; rw [Sub.sz, Sub.szL]
      rw [hsz]
      simp [Sub.pairsL] at h6 ⊢
      omega
    · rw [h1, h2]
      have hall : ∀ (l : List Sub), (∀ x ∈ l, x ∈ s.ks) → Sub.gathL l = Sub.pairsL l ∧ Sub.szL l + l.length ≤ (Sub.pairsL l).length ∧ l.length * 2 ^ (s.deep - 1).toNat ≤ (Sub.pairsL l).length := by
        intro l
        induction l with
        | nil => intro _; simp [Sub.gathL, Sub.pairsL, Sub.szL]
        | cons x r ihl =>
          intro hm
          obtain ⟨a1, a2, a3⟩ := ihl (fun y hy => hm y (List.mem_cons_of_mem _ hy))
          have hx := hm x (List.mem_cons_self ..)
          obtain ⟨f1, f2, f3, f4⟩ := h5 x hx
          obtain ⟨b1, b2, b3, b4, b5⟩ := hk x hx f1 f2 f4
          obtain ⟨b5, b6⟩ := b5 (.inl rfl)
          rw [show s.deep - 1 = x.deep by omega] at a3 ⊢
          rw [Sub.gathL, Sub.pairsL, Sub.szL, List.length_append, List.length_cons, b4, a1, Nat.add_mul]
          refine ⟨rfl, by omega, by omega⟩
      obtain ⟨a1, a2, a3⟩ := hall s.ks (fun _ h => h)
      have hsz : s.sz = 1 + Sub.szL s.ks := by obtain ⟨l, ps, ks⟩ := s; rw [Sub.sz]; rfl
      cases hks : s.ks with
      | nil => rw [hks] at h3; simp at h3
      | cons y r =>
        obtain ⟨f1, f2, f3, f4⟩ := h5 y (by rw [hks]; exact List.mem_cons_self ..)
        obtain ⟨b1, b2, b3, b4, b5⟩ := hk y (by rw [hks]; exact List.mem_cons_self ..) f1 f2 f4
        refine ⟨b1, ?_, by omega, by rw [← hks, a1]; simp, fun _ => ?_⟩
        · rw [Sub.leastL, if_neg (by simp)]; exact b2
        rw [← hks]
        · rw [List.nil_append]
          refine ⟨by omega, ?_⟩
          rw [show s.deep.toNat = (s.deep - 1).toNat + 1 by omega, Nat.pow_succ]
          have := Nat.mul_le_mul_right (2 ^ (s.deep - 1).toNat) h3
          omega
theorem gK_complete {t : List Nd} {rd : Int → Option (Sub × Int × Int)} : ∀ (l : List Sub) (nx : Nat) (d : Int), (∀ x ∈ l, ∀ a : Nat, At t a (x.lay a) → rd a = some (x, ((a + (x.lay a).length : Nat) : Int), d)) → (∀ x ∈ l, fstK x.lmost = x.least) → At t nx (Sub.layL nx l) →
    gK rd (Sub.plcs nx l) (Sub.leasts l) false nx d = some (l, ((nx + (Sub.layL nx l).length : Nat) : Int), d) := by
  intro l
  induction l with
  | nil => intro nx d h1 h2 h3; simp [Sub.plcs, Sub.layL, gK]
  | cons x r ih =>
    intro nx d h1 h2 h3
    rw [Sub.layL, At_app] at h3
    rw [Sub.plcs, Sub.leasts, gK, if_pos rfl, h1 x (List.mem_cons_self ..) nx h3.1, Option.bind_some]
    simp only [List.tail_cons, List.head?_cons]
    rw [if_neg (by rw [h2 x (List.mem_cons_self ..)]; simp), ih _ _ (fun y hy => h1 y (List.mem_cons_of_mem _ hy)) (fun y hy => h2 y (List.mem_cons_of_mem _ hy)) h3.2, Sub.layL, List.length_append]
    simp only [Option.map_some, Nat.add_assoc]
theorem gT_complete (t : List Nd) : ∀ (f : Nat) (s : Sub) (a : Nat) (root : Bool), s.sz ≤ f → s.wf → s.full root = true → 0 ≤ s.deep → At t a (s.lay a) → gT t f a root = some (s, ((a + (s.lay a).length : Nat) : Int), s.deep) := by
  intro f
  induction f with
  | zero => intro s a root hs; have := s.sz_pos; omega
  | succ f ih =>
    intro s a root hs hw hf hd ha
    have hlen := At_len ha
    have hl1 := (Sub.lay_len s a).1
    have hal : a < t.length := by rcases hlen with e | e; (rw [e] at hl1; simp at hl1); omega
    rw [gT, if_neg (by omega), Int.toNat_natCast]
    have hh := Sub.head hw hf hd
    have hkid := fun x hx => Sub.sz_kid (s := s) (x := x) hx
    rcases hh with ⟨h1, h2, h3, h4, h5, h6⟩ | ⟨h1, h2, h3, h4, h5⟩
    · obtain ⟨l, ps, ks⟩ := s
      simp only [Sub.leaf, Sub.ps, Sub.ks] at *
      subst h1 h2
      rw [Sub.lay, if_pos rfl] at ha ⊢
      rw [ha.1, h4]
      unfold gN
      simp only [Option.getD_some, List.length_nil, List.length_singleton]
      rw [if_pos trivial, if_pos ⟨h6, h5, trivial⟩]
      rfl
    · obtain ⟨l, ps, ks⟩ := s
      simp only [Sub.leaf, Sub.ps, Sub.ks] at *
      subst h1 h2
      rw [Sub.lay, if_neg (by simp)] at ha ⊢
      have hk : ∀ x ∈ ks, ∀ b : Nat, At t b (x.lay b) → gT t f b false = some (x, ((b + (x.lay b).length : Nat) : Int), (Sub.mk false [] ks).deep - 1) := fun x hx b hb => by
        obtain ⟨i1, i2, i3, i4⟩ := h5 x hx
        rw [ih x b false (by have := hkid x hx; omega) i1 i2 i4 hb, show (Sub.mk false [] ks).deep - 1 = x.deep by omega]
      have hkl : ∀ x ∈ ks, fstK x.lmost = x.least := fun x hx => by
        obtain ⟨i1, i2, i3, i4⟩ := h5 x hx
        exact (Sub.facts x.sz x false (Nat.le_refl _) i1 i2 i4).2.1
      generalize (Sub.mk false [] ks).deep = D at *
      cases ks with
      | nil => simp at h3
      | cons y r =>
        rw [ha.1]
        have h3' := ha.2
        rw [Sub.layL, At_app] at h3'
        unfold gN
        simp only [Option.getD_some, Sub.plcs, Sub.leasts, List.drop_succ_cons, List.drop_zero, List.length_cons, Sub.plcs_len, List.length_nil]
        simp only [List.length_cons] at h3 h4
        have hlr : (Sub.leasts r).length = r.length := by rw [Sub.leasts_eq, List.length_map]
        rw [if_neg (by omega), if_pos ⟨⟨by omega, by omega⟩, by omega, trivial⟩, gK, if_pos (by omega)]
        rw [hk y (List.mem_cons_self ..) (a + 1) h3'.1, Option.bind_some, if_neg (by simp), List.tail_cons]
        rw [gK_complete r _ (D - 1) (fun x hx => hk x (List.mem_cons_of_mem _ hx)) (fun x hx => hkl x (List.mem_cons_of_mem _ hx)) h3'.2]
        simp only [Option.map_some, Sub.layL, List.length_append]
        refine congrArg some (Prod.ext rfl (Prod.ext ?_ ?_))
        · simp only; omega
        · simp only; omega
theorem rdK_complete {t : List Nd} {rd : Int → Option (Sub × Int)} : ∀ (l : List Sub) (nx : Nat), (∀ x ∈ l, ∀ a : Nat, At t a (x.lay a) → rd a = some (x, ((a + (x.lay a).length : Nat) : Int))) → At t nx (Sub.layL nx l) →
    rdT.rdK rd (Sub.plcs nx l) nx = some (l, ((nx + (Sub.layL nx l).length : Nat) : Int)) := by
  intro l
  induction l with
  | nil => intro nx h1 h3; simp [Sub.plcs, Sub.layL, rdT.rdK]
  | cons x r ih =>
    intro nx h1 h3
    rw [Sub.layL, At_app] at h3
    rw [Sub.plcs, rdT.rdK, if_pos rfl, h1 x (List.mem_cons_self ..) nx h3.1, Option.bind_some]
    simp only
    rw [ih _ (fun y hy => h1 y (List.mem_cons_of_mem _ hy)) h3.2, Sub.layL, List.length_append]
    simp only [Option.map_some, Nat.add_assoc]
theorem rdT_complete (t : List Nd) : ∀ (f : Nat) (s : Sub) (a : Nat) (root : Bool), s.deep ≤ f → s.wf → s.full root = true → 0 ≤ s.deep → At t a (s.lay a) → rdT t f a = some (s, ((a + (s.lay a).length : Nat) : Int)) := by
  intro f
  induction f with
  | zero => intro s a root hs hw hf hd; have := (Sub.facts s.sz s root (Nat.le_refl _) hw hf hd).2.2.1; omega
  | succ f ih =>
    intro s a root hs hw hf hd ha
    have hlen := At_len ha
    have hl1 := (Sub.lay_len s a).1
    have hal : a < t.length := by rcases hlen with e | e; (rw [e] at hl1; simp at hl1); omega
    rw [rdT, if_neg (by omega), Int.toNat_natCast]
    have hh := Sub.head hw hf hd
    rcases hh with ⟨h1, h2, h3, h4, h5, h6⟩ | ⟨h1, h2, h3, h4, h5⟩
    · obtain ⟨l, ps, ks⟩ := s
      simp only [Sub.leaf, Sub.ps, Sub.ks] at *
      subst h1 h2
      rw [Sub.lay, if_pos rfl] at ha ⊢
      rw [ha.1]
      simp [rdT.rdK]
    · obtain ⟨l, ps, ks⟩ := s
      simp only [Sub.leaf, Sub.ps, Sub.ks] at *
      subst h1 h2
      rw [Sub.lay, if_neg (by simp)] at ha ⊢
      have hk : ∀ x ∈ ks, ∀ b : Nat, At t b (x.lay b) → rdT t f b = some (x, ((b + (x.lay b).length : Nat) : Int)) := fun x hx b hb => by
        obtain ⟨i1, i2, i3, i4⟩ := h5 x hx
        exact ih x b false (by omega) i1 i2 i4 hb
      rw [ha.1]
      simp only [Option.getD_some, Sub.plcs_len]
      have := rdK_complete ks (a + 1) hk ha.2
      rw [show ((a + 1 : Nat) : Int) = (a : Int) + 1 by omega] at this
      rw [this, Option.map_some]
      refine congrArg some (Prod.ext ?_ ?_)
      · simp; intro e; rw [e] at h3; simp at h3
      · simp only [List.length_cons]; omega
theorem rdT_wf (t : List Nd) : ∀ (f : Nat) (a : Int) (x : Sub × Int), rdT t f a = some x → x.1.wf := by
  intro f
  induction f with
  | zero => intro a x h; simp [rdT] at h
  | succ f ih =>
    intro a x h
    rw [rdT] at h
    split at h
    · cases h
    · generalize t[a.toNat]?.getD default = n at h
      obtain ⟨y, hy, rfl⟩ := Option.map_eq_some_iff.1 h
      have hK : ∀ (cs : List Int) (nx : Int) (y : List Sub × Int), rdT.rdK (rdT t f) cs nx = some y → Sub.wfL y.1 ∧ y.1.length = cs.length := by
        intro cs
        induction cs with
        | nil => intro nx y h; simp only [rdT.rdK, Option.some.injEq] at h; subst h; exact ⟨trivial, rfl⟩
        | cons c r ihc =>
          intro nx y h
          rw [rdT.rdK] at h
          split at h
          · cases hr : rdT t f c with
            | none => rw [hr] at h; simp at h
            | some z =>
              rw [hr, Option.bind_some] at h
              obtain ⟨w, hw, rfl⟩ := Option.map_eq_some_iff.1 h
              obtain ⟨i1, i2⟩ := ihc _ _ hw
              exact ⟨⟨ih _ _ hr, i1⟩, by simp [i2]⟩
          · cases h
      obtain ⟨i1, i2⟩ := hK _ _ _ hy
      refine ⟨fun e => ?_, i1⟩
      simp at e
      rw [e] at i2
      exact List.length_eq_zero_iff.1 i2
mutual
theorem Sub.sz_lay : ∀ (s : Sub) (a : Nat), s.wf → (s.lay a).length = s.sz
  | .mk l ps ks, a, h => by
    rw [Sub.lay, Sub.sz]
    have := Sub.szL_lay ks (a + 1) h.2
    split
    · rename_i e
      rw [h.1 e, Sub.szL]; rfl
    · rw [List.length_cons]; omega
theorem Sub.szL_lay : ∀ (l : List Sub) (a : Nat), Sub.wfL l → (Sub.layL a l).length = Sub.szL l
  | [], a, h => by rw [Sub.layL, Sub.szL]; rfl
  | x :: r, a, h => by
    have h1 := Sub.sz_lay x a h.1
    have h2 := Sub.szL_lay r (a + (x.lay a).length) h.2
    rw [Sub.layL, Sub.szL, List.length_append]; omega
end
/-- What the program's root comes to. -/
def gR (t : List Nd) : Option (Sub × Int) := match gT t (t.length + 1) 0 true with
  | some (s, nx, d) => if nx = t.length then some (s, d) else none
  | none => none
/-- A right tree: laid of a right sub. -/
def goodT (t : List Nd) (s : Sub) : Prop := s.wf ∧ s.full true = true ∧ 0 ≤ s.deep ∧ s.lay 0 = t
theorem gR_iff (t : List Nd) (s : Sub) (d : Int) : gR t = some (s, d) ↔ goodT t s ∧ d = s.deep := by
  unfold gR
  constructor
  · intro h
    cases hg : gT t (t.length + 1) 0 true with
    | none => rw [hg] at h; cases h
    | some x =>
      obtain ⟨s', nx, d'⟩ := x
      rw [hg] at h
      simp only at h
      split at h
      · rename_i hn
        cases h
        obtain ⟨g1, g2, g3, g4, g5, g6, g7, g8⟩ := gT_sound t (t.length + 1) 0 true _ hg
        refine ⟨⟨g3, g4, by simp only at g5 g6 ⊢; omega, ?_⟩, g5.symm⟩
        have := At_eq g1 (by simp only at g2 ⊢; omega)
        simpa using this
      · cases h
  · rintro ⟨⟨h1, h2, h3, h4⟩, rfl⟩
    have hs := Sub.sz_lay s 0 h1
    rw [h4] at hs
    have := gT_complete t (t.length + 1) s 0 true (by omega) h1 h2 h3 (by rw [h4]; exact At_self t 0)
    rw [h4] at this
    have this : gT t (t.length + 1) 0 true = some (s, ((0 + t.length : Nat) : Int), s.deep) := this
    rw [this]
    simp
theorem good_bounds {t : List Nd} {s : Sub} (h : goodT t s) (hp : s.pairs.length ≤ 200) : t.length ≤ 400 ∧ s.deep ≤ 13 := by
  obtain ⟨h1, h2, h3, h4⟩ := h
  obtain ⟨f1, f2, f3, f4, f5⟩ := Sub.facts s.sz s true (Nat.le_refl _) h1 h2 h3
  have hs := Sub.sz_lay s 0 h1
  rw [h4] at hs
  rcases Sub.head h1 h2 h3 with ⟨k1, k2, k3, k4, k5, k6⟩ | ⟨k1, k2, k3, k4, k5⟩
  · obtain ⟨l, ps, ks⟩ := s
    simp only [Sub.ks] at k2
    subst k2
    rw [Sub.sz, Sub.szL] at hs
    omega
  · obtain ⟨f5, f6⟩ := f5 (.inr k1)
    refine ⟨by omega, ?_⟩
    by_cases hd : s.deep ≤ 13
    · exact hd
    · have : 2 ^ 13 ≤ 2 ^ s.deep.toNat := Nat.pow_le_pow_right (by omega) (by omega)
      omega
theorem specOk_iff (t : List Nd) : specOk t ↔ t = [] ∨ ∃ s, goodT t s ∧ pairsOk s.pairs := by
  unfold specOk
  constructor
  · rintro (h | ⟨h1, h2, h3, h4, h5, h6⟩)
    · exact .inl h
    · by_cases h0 : t = []
      · exact .inl h0
      · refine .inr ⟨_, ⟨?_, h3, h4, h6⟩, h5⟩
        unfold rootT
        rw [if_neg (fun e => h0 (List.length_eq_zero_iff.1 e))]
        cases hr : rdT t 13 0 with
        | none => exact ⟨by simp, trivial⟩
        | some x => exact rdT_wf _ _ _ _ hr
  · rintro (h | ⟨s, hs, hp⟩)
    · exact .inl h
    · obtain ⟨b1, b2⟩ := good_bounds hs hp.1
      obtain ⟨h1, h2, h3, h4⟩ := hs
      have hr := rdT_complete t 13 s 0 true (by omega) h1 h2 h3 (by rw [h4]; exact At_self t 0)
      have hr : rdT t 13 0 = some (s, ((0 + (s.lay 0).length : Nat) : Int)) := hr
      rw [h4] at hr
      have h0 : ¬ t.length = 0 := by
        have := (Sub.lay_len s 0).1
        rw [h4] at this; omega
      have hR : rootT t = (s, true) := by
        unfold rootT
        rw [if_neg h0, hr]
        simp
      rw [hR]
      exact .inr ⟨b1, rfl, h2, h3, hp, h4⟩
theorem rootT_good {t : List Nd} {s : Sub} (h : goodT t s) (hp : pairsOk s.pairs) : (rootT t).1 = s := by
  obtain ⟨b1, b2⟩ := good_bounds h hp.1
  obtain ⟨h1, h2, h3, h4⟩ := h
  have hr := rdT_complete t 13 s 0 true (by omega) h1 h2 h3 (by rw [h4]; exact At_self t 0)
  have hr : rdT t 13 0 = some (s, ((0 + (s.lay 0).length : Nat) : Int)) := hr
  have h0 : ¬ t.length = 0 := by
    have := (Sub.lay_len s 0).1
    rw [h4] at this; omega
  unfold rootT
  rw [if_neg h0, hr]
mutual
theorem Sub.pairs_le : ∀ (s : Sub) (root : Bool), s.wf → s.full root = true → s.pairs.length ≤ 4 * s.sz
  | .mk l ps ks, root, hw, hf => by
    rw [Sub.wf] at hw
    rw [Sub.full] at hf
    rw [Sub.pairs, Sub.sz, List.length_append]
    cases l with
    | true =>
      rw [if_pos rfl] at hf
      rw [hw.1 rfl, Sub.pairsL, Sub.szL]
      simp at hf ⊢; omega
    | false =>
      rw [if_neg (by simp)] at hf
      simp only [Bool.and_eq_true, decide_eq_true_eq] at hf
      have := Sub.pairsL_le ks hw.2 hf.2
      rw [hf.1.2.2]
      simp; omega
theorem Sub.pairsL_le : ∀ (l : List Sub), Sub.wfL l → Sub.fullL l = true → (Sub.pairsL l).length ≤ 4 * Sub.szL l
  | [], hw, hf => by simp [Sub.pairsL]
  | x :: r, hw, hf => by
    rw [Sub.fullL, Bool.and_eq_true] at hf
    have h1 := Sub.pairs_le x false hw.1 hf.1
    have h2 := Sub.pairsL_le r hw.2 hf.2
    rw [Sub.pairsL, Sub.szL, List.length_append]; omega
end
mutual
theorem Sub.pairs_in : ∀ (s : Sub) (root : Bool) (a : Nat) (p : Pr), s.wf → s.full root = true → p ∈ s.pairs → ∃ x ∈ s.lay a, p ∈ x.ps
  | .mk l ps ks, root, a, p, hw, hf, hp => by
    rw [Sub.wf] at hw
    rw [Sub.full] at hf
    rw [Sub.pairs] at hp
    rw [Sub.lay]
    cases l with
    | true =>
      rw [hw.1 rfl, Sub.pairsL, List.append_nil] at hp
      rw [if_pos rfl]
      exact ⟨_, List.mem_singleton.2 rfl, hp⟩
    | false =>
      rw [if_neg (by simp)] at hf ⊢
      simp only [Bool.and_eq_true, decide_eq_true_eq] at hf
      rw [hf.1.2.2, List.nil_append] at hp
      obtain ⟨x, h1, h2⟩ := Sub.pairsL_in ks (a + 1) p hw.2 hf.2 hp
      exact ⟨x, List.mem_cons_of_mem _ h1, h2⟩
theorem Sub.pairsL_in : ∀ (l : List Sub) (a : Nat) (p : Pr), Sub.wfL l → Sub.fullL l = true → p ∈ Sub.pairsL l → ∃ x ∈ Sub.layL a l, p ∈ x.ps
  | [], a, p, hw, hf, hp => by simp [Sub.pairsL] at hp
  | y :: r, a, p, hw, hf, hp => by
    rw [Sub.fullL, Bool.and_eq_true] at hf
    rw [Sub.pairsL] at hp
    rw [Sub.layL]
    rcases List.mem_append.1 hp with hp | hp
    · obtain ⟨x, h1, h2⟩ := Sub.pairs_in y false a p hw.1 hf.1 hp
      exact ⟨x, List.mem_append_left _ h1, h2⟩
    · obtain ⟨x, h1, h2⟩ := Sub.pairsL_in r _ p hw.2 hf.2 hp
      exact ⟨x, List.mem_append_right _ h1, h2⟩
end
/-- Of a right tree: its sizes. -/
theorem good_sizes {t : List Nd} {s : Sub} (h : goodT t s) : s.gath = s.pairs ∧ s.sz = t.length ∧ s.gath.length ≤ 4 * t.length ∧ ∀ p ∈ s.gath, ∃ x ∈ t, p ∈ x.ps := by
  obtain ⟨h1, h2, h3, h4⟩ := h
  obtain ⟨f1, f2, f3, f4, f5⟩ := Sub.facts s.sz s true (Nat.le_refl _) h1 h2 h3
  have hs := Sub.sz_lay s 0 h1
  rw [h4] at hs
  have := Sub.pairs_le s true h1 h2
  rw [f4]
  refine ⟨rfl, hs.symm, by omega, fun p hp => ?_⟩
  obtain ⟨x, hx, hp⟩ := Sub.pairs_in s true 0 p h1 h2 hp
  rw [h4] at hx
  exact ⟨x, hx, hp⟩
/-- The program's root: a right sub, or none of no nodes, and how deep; or not right. -/
noncomputable def gRoot (t : List Nd) : Option (Option Sub × Int) := if t.length = 0 then some (none, 0) else match gR t with
  | some (s, d) => open Classical in if pairsOk s.gath then some (some s, d) else none
  | none => none
theorem gRoot_spec (t : List Nd) : (specOk t ↔ (gRoot t).isSome = true) ∧ (∀ x, gRoot t = some x → (t = [] ∧ x = (none, 0)) ∨ (t ≠ [] ∧ ∃ s, goodT t s ∧ pairsOk s.pairs ∧ x = (some s, s.deep) ∧ (rootT t).1 = s)) := by
  have h2 : ∀ x, gRoot t = some x → (t = [] ∧ x = (none, 0)) ∨ (t ≠ [] ∧ ∃ s, goodT t s ∧ pairsOk s.pairs ∧ x = (some s, s.deep) ∧ (rootT t).1 = s) := by
    intro x h
    unfold gRoot at h
    split at h
    · rename_i h0; cases h; exact .inl ⟨List.length_eq_zero_iff.1 h0, rfl⟩
    · rename_i h0
      split at h
      · rename_i s d hg
        split at h
        · rename_i hp
          cases h
          obtain ⟨g1, rfl⟩ := (gR_iff t s d).1 hg
          have hp' : pairsOk s.pairs := by rw [← (good_sizes g1).1]; exact hp
          exact .inr ⟨fun e => h0 (by simp [e]), s, g1, hp', rfl, rootT_good g1 hp'⟩
        · cases h
      · cases h
  refine ⟨?_, h2⟩
  rw [specOk_iff]
  constructor
  · rintro (h | ⟨s, h1, h3⟩)
    · unfold gRoot; rw [if_pos (by simp [h])]; rfl
    · unfold gRoot
      split
      · rfl
      · rw [(gR_iff t s s.deep).2 ⟨h1, rfl⟩]
        simp only
        rw [if_pos (by rw [(good_sizes h1).1]; exact h3)]; rfl
  · intro h
    cases hg : gRoot t with
    | none => rw [hg] at h; cases h
    | some x =>
      rcases h2 x hg with ⟨e, _⟩ | ⟨_, s, h1, h3, _⟩
      · exact .inl e
      · exact .inr ⟨s, h1, h3⟩
theorem Sub.deep_sz : ∀ (n : Nat) (s : Sub) (root : Bool), s.sz ≤ n → s.wf → s.full root = true → 0 ≤ s.deep → s.deep ≤ s.sz := by
  intro n
  induction n with
  | zero => intro s root hs; have := s.sz_pos; omega
  | succ n ih =>
    intro s root hs hw hf hd
    rcases Sub.head hw hf hd with ⟨k1, k2, k3, k4, k5, k6⟩ | ⟨k1, k2, k3, k4, k5⟩
    · have := s.sz_pos; omega
    · cases hks : s.ks with
      | nil => rw [hks] at k3; simp at k3
      | cons y r =>
        have hy : y ∈ s.ks := by rw [hks]; exact List.mem_cons_self ..
        obtain ⟨f1, f2, f3, f4⟩ := k5 y hy
        have hz := Sub.sz_kid hy
        have := ih y false (by omega) f1 f2 f4
        omega
theorem gOk_sizes {t : List Nd} {a : Nat} {root : Bool} {x : Sub × Int × Int} (h : gOk t a root x) : (a : Int) + 1 ≤ x.2.1 ∧ x.2.1 ≤ t.length ∧ x.2.2 ≤ t.length ∧ 1 ≤ x.2.2 ∧ x.1.lmost ≠ [] ∧ ∃ n : Nat, x.2.1 = n := by
  obtain ⟨g1, g2, g3, g4, g5, g6, g7, g8⟩ := h
  have hl := (Sub.lay_len x.1 a).1
  have hz := Sub.sz_lay x.1 a g3
  have hd := Sub.deep_sz x.1.sz x.1 root (Nat.le_refl _) g3 g4 (by omega)
  rcases At_len g1 with e | e
  · rw [e] at hl; simp at hl
  · exact ⟨by omega, by omega, by omega, g6, g7, _, g2⟩
end Go.Proofs.Ytnnmpdanfeejbaa.Abs

/- The draws: trees put into. Weak contracts. -/
namespace Go.Proofs.Ytnnmpdanfeejbaa.Abs
open Go Go.Proofs
set_option maxRecDepth 10000
set_option linter.unusedVariables false
set_option linter.unusedSimpArgs false
def splitS (s : Sub) : List Sub :=
  if s.leaf = true ∧ 4 < s.ps.length then [.mk true (s.ps.take 3) [], .mk true (s.ps.drop 3) []]
  else if 4 < s.ks.length then [.mk false [] (s.ks.take 3), .mk false [] (s.ks.drop 3)] else [s]
theorem Sub.szL_app (a b : List Sub) : Sub.szL (a ++ b) = Sub.szL a + Sub.szL b := by
  induction a with
  | nil => simp [Sub.szL]
  | cons x r ih => rw [List.cons_append, Sub.szL, Sub.szL, ih]; omega
theorem Sub.sz_eq (s : Sub) : s.sz = 1 + Sub.szL s.ks := by cases s; rw [Sub.sz]; rfl
theorem splitS_ok (s : Sub) : (1 ≤ (splitS s).length ∧ (splitS s).length ≤ 2) ∧ Sub.szL (splitS s) ≤ s.sz + 1 ∧ (Sub.pairsL (splitS s)).length ≤ s.pairs.length ∧ ∀ q ∈ Sub.pairsL (splitS s), q ∈ s.pairs := by
  have h1 := Sub.sz_eq s
  have h2 := Sub.pairs_eq s
  unfold splitS
  split
  · refine ⟨by simp, ?_, ?_, ?_⟩
    · simp [Sub.szL, Sub.sz] <;> omega
    · rw [h2]; simp [Sub.pairsL, Sub.pairs] <;> omega
    · intro q hq
      rw [h2]
      refine List.mem_append_left _ ?_
      simpa [Sub.pairsL, Sub.pairs] using hq
  · split
    · have e : s.ks = s.ks.take 3 ++ s.ks.drop 3 := (List.take_append_drop 3 _).symm
      have e1 : Sub.szL s.ks = Sub.szL (s.ks.take 3) + Sub.szL (s.ks.drop 3) := by rw [← Sub.szL_app, ← e]
      have e2 : Sub.pairsL s.ks = Sub.pairsL (s.ks.take 3) ++ Sub.pairsL (s.ks.drop 3) := by rw [← Sub.pairsL_app, ← e]
      refine ⟨by simp, ?_, ?_, ?_⟩
      · simp [Sub.szL, Sub.sz] <;> omega
      · rw [h2, e2]; simp [Sub.pairsL, Sub.pairs]
      · intro q hq
        rw [h2, e2]
        simp [Sub.pairsL, Sub.pairs] at hq
        exact List.mem_append_right _ (List.mem_append.2 hq)
    · refine ⟨by simp, by simp [Sub.szL], by simp [Sub.pairsL], by simp [Sub.pairsL]⟩
/-- The cells of what is split. -/
def esS (s : Sub) : List (List CV) :=
  if s.leaf = true ∧ 4 < s.ps.length then [[.v (.bool true), .row false ((s.ps.take 3).map prC), .row true []], [.v (.bool true), .row false ((s.ps.drop 3).map prC), .row true []]]
  else if 4 < s.ks.length then [[.v (.bool false), .row true [], .row false ((s.ks.take 3).map (suC false))], [.v (.bool false), .row true [], .row false ((s.ks.drop 3).map (suC false))]]
  else [[.v (.bool s.leaf), .row false (s.ps.map prC), .row false (s.ks.map (suC false))]]
theorem l03Split_ok (s : Sub) (h1 : s.ps.length ≤ 2^40) (h2 : s.ks.length ≤ 2^40) : CallOk Try.prog 179 [] [s.rd] (fun r out => r = .sl 1 (esS s).length ∧ out = [some (.rw 115 3 (esS s))]) := by
  obtain ⟨lf, ps, ks⟩ := s
  unfold Sub.rd
  simp only [Sub.ps, Sub.ks, Sub.leaf] at h1 h2 ⊢
  cases lf with
  | false =>
    by_cases h4 : 4 < ks.length
    · rw [show esS (.mk false ps ks) = [[.v (.bool false), .row true [], .row false ((ks.take 3).map (suC false))], [.v (.bool false), .row true [], .row false ((ks.drop 3).map (suC false))]] from (if_neg (by simp [Sub.leaf])).trans (if_pos h4)]
      refine callOk_z (np := 0) {} mixed Try.func179 (by rfl) Try.ntmps179 Try.results179 (by rfl) (Nat.le_of_ble_eq_true rfl) rfl rfl rfl (vc ?_)
      rw [show decide (((ks.length : Nat) : Int) > 4) = true by simp; omega]
      refine vc ?_
      refine drawQ_of false (by rfl) (by simp) (vc ?_)
      rw [if_pos (by omega), Option.bind_some]
      refine vc ?_
      rw [if_pos (by omega), Option.bind_some]
      refine vc ?_
      refine ⟨rfl, ?_⟩
      refine endQ_of [(1, 177)] (.sl 1 2) [some (.rw 115 3 [[.v (.bool false), .row true [], .row false ((ks.take 3).map (suC false))], [.v (.bool false), .row true [], .row false ((ks.drop 3).map (suC false))]])] (by rfl) (vc trivial) (vc ?_) ⟨rfl, rfl⟩
      simp [List.take_of_length_le]
    · rw [show esS (.mk false ps ks) = [[.v (.bool false), .row false (ps.map prC), .row false (ks.map (suC false))]] from (if_neg (by simp [Sub.leaf])).trans (if_neg h4)]
      refine callOk_z (np := 0) {} mixed Try.func179 (by rfl) Try.ntmps179 Try.results179 (by rfl) (Nat.le_of_ble_eq_true rfl) rfl rfl rfl (vc ?_)
      rw [show decide (((ks.length : Nat) : Int) > 4) = false by simp; omega]
      refine vc ?_
      refine endQ_of [(1, 121)] (.sl 1 1) [some (.rw 115 3 [[.v (.bool false), .row false (ps.map prC), .row false (ks.map (suC false))]])] (by rfl) (vc trivial) (vc ?_) ⟨rfl, rfl⟩
      trivial
  | true =>
    by_cases h3 : 4 < ps.length
    · rw [show esS (.mk true ps ks) = [[.v (.bool true), .row false ((ps.take 3).map prC), .row true []], [.v (.bool true), .row false ((ps.drop 3).map prC), .row true []]] from if_pos ⟨rfl, h3⟩]
      refine callOk_z (np := 0) {} mixed Try.func179 (by rfl) Try.ntmps179 Try.results179 (by rfl) (Nat.le_of_ble_eq_true rfl) rfl rfl rfl (vc ?_)
      rw [show decide (((ps.length : Nat) : Int) > 4) = true by simp; omega]
      refine vc ?_
      refine drawQ_of false (by rfl) (by simp) (vc ?_)
      rw [if_pos (by omega), Option.bind_some]
      refine vc ?_
      rw [if_pos (by omega), Option.bind_some]
      refine vc ?_
      refine ⟨rfl, ?_⟩
      refine endQ_of [(1, 145)] (.sl 1 2) [some (.rw 115 3 [[.v (.bool true), .row false ((ps.take 3).map prC), .row true []], [.v (.bool true), .row false ((ps.drop 3).map prC), .row true []]])] (by rfl) (vc trivial) (vc ?_) ⟨rfl, rfl⟩
      simp [List.take_of_length_le]
    by_cases h4 : 4 < ks.length
    · rw [show esS (.mk true ps ks) = [[.v (.bool false), .row true [], .row false ((ks.take 3).map (suC false))], [.v (.bool false), .row true [], .row false ((ks.drop 3).map (suC false))]] from (if_neg (by simp [Sub.ps]; omega)).trans (if_pos h4)]
      refine callOk_z (np := 0) {} mixed Try.func179 (by rfl) Try.ntmps179 Try.results179 (by rfl) (Nat.le_of_ble_eq_true rfl) rfl rfl rfl (vc ?_)
      rw [show decide (((ps.length : Nat) : Int) > 4) = false by simp; omega]
      refine vc ?_
      rw [show decide (((ks.length : Nat) : Int) > 4) = true by simp; omega]
      refine vc ?_
      refine drawQ_of false (by rfl) (by simp) (vc ?_)
      rw [if_pos (by omega), Option.bind_some]
      refine vc ?_
      rw [if_pos (by omega), Option.bind_some]
      refine vc ?_
      refine ⟨rfl, ?_⟩
      refine endQ_of [(1, 177)] (.sl 1 2) [some (.rw 115 3 [[.v (.bool false), .row true [], .row false ((ks.take 3).map (suC false))], [.v (.bool false), .row true [], .row false ((ks.drop 3).map (suC false))]])] (by rfl) (vc trivial) (vc ?_) ⟨rfl, rfl⟩
      simp [List.take_of_length_le]
    · rw [show esS (.mk true ps ks) = [[.v (.bool true), .row false (ps.map prC), .row false (ks.map (suC false))]] from (if_neg (by simp [Sub.ps]; omega)).trans (if_neg h4)]
      refine callOk_z (np := 0) {} mixed Try.func179 (by rfl) Try.ntmps179 Try.results179 (by rfl) (Nat.le_of_ble_eq_true rfl) rfl rfl rfl (vc ?_)
      rw [show decide (((ps.length : Nat) : Int) > 4) = false by simp; omega]
      refine vc ?_
      rw [show decide (((ks.length : Nat) : Int) > 4) = false by simp; omega]
      refine vc ?_
      refine endQ_of [(1, 121)] (.sl 1 1) [some (.rw 115 3 [[.v (.bool true), .row false (ps.map prC), .row false (ks.map (suC false))]])] (by rfl) (vc trivial) (vc ?_) ⟨rfl, rfl⟩
      trivial
theorem l03Way_ok (s : Sub) (k : ByteArray) (h2 : s.sz ≤ 2^40) : CallOk Try.prog 176 [] [s.rd, .c (.v (.string k))] (fun r out => (∃ n : Nat, r = In n ∧ (n = 0 ∨ n < s.ks.length)) ∧ out = []) := by
  have hkl := s.ks_len
  unfold Sub.rd
  refine callOk_z (np := 0) {} mixed Try.func176 (by rfl) Try.ntmps176 Try.results176 (by rfl) (Nat.le_of_ble_eq_true rfl) rfl rfl rfl (vc ?_)
  refine loopQ_of (ι := Nat × Nat) (fun i => [(1, .c (.v (.string k))), (2, .pt 1 0 0), (5, In (i.2 : Nat)), (6, In (i.1 : Nat))]) (fun i => [(1, .box 115 [Bo s.leaf, Rw (s.ps.map prC), Rw (s.ks.map (suC false))])]) 2 (fun i => s.ks.length + 1 - i.1) (fun i => i.1 ≤ s.ks.length + 1 ∧ (i.2 = 0 ∨ i.2 < s.ks.length)) (1, 0) ⟨by omega, .inl rfl⟩ [(1, 1)] (by rfl) (vc ?_) (vc ?_) (fun i hi N hN => ?_)
  · trivial
  · trivial
  obtain ⟨i, n⟩ := i
  obtain ⟨hi, hn⟩ := hi
  simp only at hi hn hN
  refine vc (brB_intro (fun h => ?_) (fun h => ?_))
  · have h : i < s.ks.length := by simpa using h
    have hx := List.getElem?_eq_getElem h
    rw [get_map hx, suC_eq]
    refine vc ?_
    have hc := least_ok s.ks[i].sz s.ks[i] (Nat.le_refl _)
    unfold Sub.rd at hc
    refine callq_of false [] hc rfl trivial (vc trivial) ?_
    rintro r out ⟨rfl, rfl⟩
    refine vc4 (by simp) (by simp) (by simp) ?_
    refine brB_intro (fun h1 => ?_) (fun h1 => ?_)
    · refine hN _ (i + 1, i) [(1, 1)] ⟨by omega, .inr h⟩ (by show s.ks.length + 1 - (i + 1) < s.ks.length + 1 - i; omega) (by rfl) (vc ?_) (vc trivial)
      rw [w64 _ (by omega)]; simp
    · refine hN _ (i + 1, n) [(1, 1)] ⟨by show i + 1 ≤ _; omega, hn⟩ (by show s.ks.length + 1 - (i + 1) < s.ks.length + 1 - i; omega) (by rfl) (vc ?_) (vc trivial)
      rw [w64 _ (by omega)]; simp
  · exact EndQ.closed (.v _) ⟨⟨n, rfl, hn⟩, rfl⟩
end Go.Proofs.Ytnnmpdanfeejbaa.Abs

/- The draws: a pair is put below. Weak contract. -/
namespace Go.Proofs.Ytnnmpdanfeejbaa.Abs
open Go Go.Proofs
set_option maxRecDepth 10000
set_option linter.unusedVariables false
set_option linter.unusedSimpArgs false
/-- Rows of cells that are the same but for the marks. -/
def SimR (xs ys : List (List CV)) : Prop := xs.length = ys.length ∧ ∀ (i : Nat) e e', xs[i]? = some e → ys[i]? = some e' → SimC e e'
theorem SimR.sim {xs ys : List (List CV)} (h : SimR xs ys) (k k' : Bool) : Sim (.row k xs) (.row k' ys) :=
  .row _ _ _ _ h.1 (fun i e e' a b => (h.2 i e e' a b).1) (fun i j e e' c c' a b => (h.2 i e e' a b).2 j c c')
theorem SimR.nil : SimR [] [] := ⟨rfl, fun i e e' h => by simp at h⟩
theorem SimR.cons {a b : List CV} {l m : List (List CV)} (h : SimC a b) (hl : SimR l m) : SimR (a :: l) (b :: m) := by
  refine ⟨by simp [hl.1], fun j c c' hc hc' => ?_⟩
  cases j with
  | zero => simp at hc hc'; subst hc hc'; exact h
  | succ j => exact hl.2 j c c' (by simpa using hc) (by simpa using hc')
theorem SimR.app : {a b l m : List (List CV)} → SimR a b → SimR l m → SimR (a ++ l) (b ++ m)
  | [], [], l, m, _, h => h
  | [], _ :: _, _, _, h, _ => by have := h.1; simp at this
  | _ :: _, [], _, _, h, _ => by have := h.1; simp at this
  | x :: r, y :: q, l, m, h, h2 => by
    refine SimR.cons (h.2 0 x y rfl rfl) (SimR.app (a := r) (b := q) ⟨by have := h.1; simpa using this, fun i e e' a b => h.2 (i + 1) e e' (by simpa using a) (by simpa using b)⟩ h2)
theorem SimR.su (k k' : Bool) : (l : List Sub) → SimR (l.map (suC k)) (l.map (suC k'))
  | [] => .nil
  | x :: r => .cons (sim_suC k k' x) (SimR.su k k' r)
theorem im_su (l : List Sub) : (l.map (suC false)).map (fun x => x.map CV.im) = l.map (suC false) := by
  rw [List.map_map]
  refine List.map_congr_left fun x _ => ?_
  show (suC false x).map CV.im = _
  rw [suC_eq]; rfl
theorem al_su' (l : List Sub) (k : Bool) : ∀ c ∈ l.map (suC k), c.length = 3 := by
  intro c hc
  obtain ⟨x, _, rfl⟩ := List.mem_map.1 hc
  exact suC_length k x
theorem esS_sim (s : Sub) : SimR (esS s) ((splitS s).map (suC false)) ∧ (∀ e ∈ esS s, e.length = 3) ∧ allV (esS s) = false ∧ (esS s).length ≤ 2 := by
  unfold esS splitS
  split
  · refine ⟨?_, by simp, rfl, by simp⟩
    refine .cons ?_ (.cons ?_ .nil)
    · rw [suC_eq]; exact .v (.cons (sim_pr _ _ _) (.cons (sim_nil _ _) .nil))
    · rw [suC_eq]; exact .v (.cons (sim_pr _ _ _) (.cons (sim_nil _ _) .nil))
  · split
    · refine ⟨?_, by simp, rfl, by simp⟩
      refine .cons ?_ (.cons ?_ .nil)
      · rw [suC_eq]; exact .v (.cons (sim_nil _ _) (.cons (sim_su _ _ _ _ _) .nil))
      · rw [suC_eq]; exact .v (.cons (sim_nil _ _) (.cons (sim_su _ _ _ _ _) .nil))
    · refine ⟨?_, by simp, rfl, by simp⟩
      refine .cons ?_ .nil
      rw [suC_eq]; exact .v (.cons (sim_pr _ _ _) (.cons (sim_su _ _ _ _ _) .nil))
theorem full_ks {s : Sub} {r : Bool} (h : s.full r = true) (hl : s.leaf = false) : 2 ≤ s.ks.length ∧ s.ks.length ≤ 4 ∧ s.ps = [] ∧ ∀ x ∈ s.ks, x.full false = true := by
  rw [Sub.full_eq, hl] at h
  simp [Sub.fullL_all] at h
  obtain ⟨⟨h1, h2, h3⟩, h4⟩ := h
  exact ⟨h1, h2, h3, h4⟩
theorem pairsL_sub {l : List Sub} {x : Sub} (h : x ∈ l) : ∀ q ∈ x.pairs, q ∈ Sub.pairsL l := by
  induction l with
  | nil => simp at h
  | cons y r ih =>
    intro q hq
    rw [Sub.pairsL, List.mem_append]
    rcases List.mem_cons.1 h with rfl | h
    · exact .inl hq
    · exact .inr (ih h q hq)
/-- What a put gives back. -/
def PutR (s : Sub) (p : Pr) (r : AV) (out : List (Option Ob)) : Prop := ∃ (es : List (List CV)) (l : List Sub), r = .sl 1 es.length ∧ out = [some (.rw 115 3 es)] ∧ SimR es (l.map (suC false)) ∧ (∀ e ∈ es, e.length = 3) ∧ allV es = false ∧ 1 ≤ l.length ∧ l.length ≤ 2 ∧ Sub.szL l ≤ 2 * s.sz ∧ (Sub.pairsL l).length ≤ s.pairs.length + 1 ∧ ∀ q ∈ Sub.pairsL l, q ∈ s.pairs ∨ q = p
theorem PutR.inh (s : Sub) (p : Pr) : ∃ r out, PutR s p r out := by
  refine ⟨_, _, [[.v (.bool true), .row true [], .row true []]], [.mk true [] []], rfl, rfl, ?_, by simp, rfl, by simp, by simp, ?_, ?_, ?_⟩
  · refine .cons ?_ .nil
    rw [suC_eq]; exact .v (.cons (sim_nil _ _) (.cons (sim_nil _ _) .nil))
  · have := Sub.sz_eq s; simp [Sub.szL, Sub.sz]; omega
  · simp [Sub.pairsL, Sub.pairs]
  · simp [Sub.pairsL, Sub.pairs]
theorem PutR.of {s s' : Sub} {p : Pr} (h1 : Sub.szL (splitS s') ≤ 2 * s.sz) (h2 : s'.pairs.length ≤ s.pairs.length + 1) (h3 : ∀ q ∈ s'.pairs, q ∈ s.pairs ∨ q = p) : PutR s p (.sl 1 (esS s').length) [some (.rw 115 3 (esS s'))] := by
  obtain ⟨a1, a2, a3, a4⟩ := splitS_ok s'
  obtain ⟨b1, b2, b3, b4⟩ := esS_sim s'
  exact ⟨esS s', splitS s', rfl, rfl, b1, b2, b3, a1.1, a1.2, h1, by omega, fun q hq => h3 q (a4 q hq)⟩
theorem put_ok (p : Pr) : ∀ (f : Nat) (s : Sub) (rt : Bool), s.sz ≤ f → f ≤ 2^36 → s.pairs.length ≤ 2^36 → (s.full rt = true ∨ s.leaf = true ∧ s.ps = []) → CallOk Try.prog 173 [] [s.rd, .ag [.c (.v (.string p.k)), .c (.v (.string p.v))]] (PutR s p) := by
  intro f
  induction f with
  | zero => intro s rt h; have := Sub.sz_eq s; omega
  | succ f ih =>
    intro s rt hsz hf hpl hfull
    have hs1 := Sub.sz_eq s
    have hkl := s.ks_len
    have hp := Sub.pairs_eq s
    obtain ⟨k, v⟩ := p
    unfold Sub.rd
    simp only
    cases hl : s.leaf with
    | true =>
      have hps : s.ps.length ≤ 4 := by
        rcases hfull with hfull | ⟨_, hfull⟩
        · rw [Sub.full_eq, hl] at hfull; simp at hfull; exact hfull.1
        · rw [hfull]; simp
      refine callOk_z (np := 0) { fz := [(15, [3, 52]), (20, [265])] } mixed Try.func173 (by rfl) Try.ntmps173 Try.results173 (by rfl) (Nat.le_of_ble_eq_true rfl) rfl rfl rfl (vc ?_)
      refine loopQ_of (ι := Nat × List Pr × Bool) (fun i => [(2, .pt 1 0 0), (3, .pt 2 0 0), (5, .sl 3 i.2.1.length), (6, Bo i.2.2), (15, Rw (s.ps.map prC)), (16, In s.ps.length), (17, In (i.1 : Nat))]) (fun i => [(1, .box 115 [Bo true, Rw (s.ps.map prC), Rw (s.ks.map (suC false))]), (2, .box 133 [.c (.v (.string k)), .c (.v (.string v))]), (3, .rw 133 2 (i.2.1.map prC))]) 4 (fun i => s.ps.length - i.1) (fun i => i.1 ≤ s.ps.length ∧ i.2.1.length ≤ i.1 + (if i.2.2 = true then 1 else 0) ∧ ∀ q ∈ i.2.1, q ∈ s.ps ∨ q = ⟨k, v⟩) (0, [], false) ⟨Nat.zero_le _, by simp, by simp⟩ [(2, 9), (3, 41)] (by rfl) (vc ?_) (vc ?_) (fun i hi N hN => ?_)
      · trivial
      · trivial
      obtain ⟨i, o, d⟩ := i
      obtain ⟨hi, ho, hq⟩ := hi
      simp only at hi ho hq hN
      have hod : o.length ≤ i + 1 := by split at ho <;> omega
      refine vc (brB_intro (fun h => ?_) (fun h => ?_))
      · have h : i < s.ps.length := by simpa using h
        have hx := List.getElem?_eq_getElem h
        have hxm := List.getElem_mem h
        rw [get_map hx, prC]
        have hm : s.ps.length - (i + 1) < s.ps.length - i := by omega
        have hw : IntKind.i64.wrap (((i : Nat) : Int) + 1) = ((i + 1 : Nat) : Int) := by rw [w64 _ (by omega)]; simp
        cases d with
        | true =>
          simp only [if_pos] at ho
          refine vc (brB_intro (fun h1 => ?_) (fun h1 => ?_))
          · refine ⟨⟨by unfold maxLen; omega, by omega⟩, ?_⟩
            refine hN _ (i + 1, o ++ [s.ps[i]], true) [(3, 180)] ⟨h, by simp; omega, ?_⟩ hm (by rfl) (vc ?_) (vc ?_)
            · intro q hq'
              rcases List.mem_append.1 hq' with hq' | hq'
              · exact hq q hq'
              · rw [List.mem_singleton] at hq'; subst hq'; exact .inl hxm
            · rw [hw]; simp
            · rw [List.map_append]; rfl
          · refine hN _ (i + 1, o, true) [] ⟨h, by simp; omega, hq⟩ hm (by rfl) (vc ?_) (vc trivial)
            rw [hw]
        | false =>
          simp only [Bool.false_eq_true, if_false] at ho
          refine vc (brB_intro (fun h0 => ?_) (fun h0 => ?_))
          · refine ⟨⟨by unfold maxLen; omega, by omega⟩, ?_⟩
            refine brB_intro (fun h1 => ?_) (fun h1 => ?_)
            · refine ⟨⟨by simp, by unfold maxLen; omega, by omega⟩, ?_⟩
              refine hN _ (i + 1, o ++ [⟨k, v⟩] ++ [s.ps[i]], true) [(3, 228)] ⟨h, by simp; omega, ?_⟩ hm (by rfl) (vc ?_) (vc ?_)
              · intro q hq'
                rcases List.mem_append.1 hq' with hq' | hq'
                · rcases List.mem_append.1 hq' with hq' | hq'
                  · exact hq q hq'
                  · exact .inr (List.mem_singleton.1 hq')
                · rw [List.mem_singleton] at hq'; subst hq'; exact .inl hxm
              · rw [hw]; simp
              · rw [List.map_append, List.map_append]; rfl
            · refine hN _ (i + 1, o ++ [⟨k, v⟩], true) [(3, 140)] ⟨h, by simp; omega, ?_⟩ hm (by rfl) (vc ?_) (vc ?_)
              · intro q hq'
                rcases List.mem_append.1 hq' with hq' | hq'
                · exact hq q hq'
                · exact .inr (List.mem_singleton.1 hq')
              · rw [hw]; simp
              · rw [List.map_append]; rfl
          · refine brB_intro (fun h1 => ?_) (fun h1 => ?_)
            · refine ⟨⟨by unfold maxLen; omega, by omega⟩, ?_⟩
              refine hN _ (i + 1, o ++ [s.ps[i]], false) [(3, 180)] ⟨h, by simp; omega, ?_⟩ hm (by rfl) (vc ?_) (vc ?_)
              · intro q hq'
                rcases List.mem_append.1 hq' with hq' | hq'
                · exact hq q hq'
                · rw [List.mem_singleton] at hq'; subst hq'; exact .inl hxm
              · rw [hw]; simp
              · rw [List.map_append]; rfl
            · refine hN _ (i + 1, o, false) [] ⟨h, by simp; omega, hq⟩ hm (by rfl) (vc ?_) (vc trivial)
              rw [hw]
      · have fin : ∀ L : List Pr, L.length ≤ s.ps.length + 1 → (∀ q ∈ L, q ∈ s.ps ∨ q = ⟨k, v⟩) → PutR s ⟨k, v⟩ (.sl 1 (esS (.mk true L [])).length) [some (.rw 115 3 (esS (.mk true L [])))] := by
          intro L hL1 hL2
          refine PutR.of ?_ ?_ ?_
          · obtain ⟨a1, a2, a3, a4⟩ := splitS_ok (.mk true L [])
            have : (Sub.mk true L []).sz = 1 := by simp [Sub.sz, Sub.szL]
            omega
          · simp [Sub.pairs, Sub.pairsL, hp]; omega
          · intro q hq
            simp [Sub.pairs, Sub.pairsL] at hq
            rcases hL2 q hq with h | h
            · left; rw [hp]; exact List.mem_append_left _ h
            · exact .inr h
        cases d with
        | true =>
          simp only [if_pos] at ho
          refine vc ?_
          have hc := l03Split_ok (.mk true o []) (by simp [Sub.ps]; omega) (by simp [Sub.ks])
          unfold Sub.rd at hc
          simp only [Sub.leaf, Sub.ps, Sub.ks] at hc
          refine callq_of false [] hc rfl trivial (vc ?_) ?_
          · exact ⟨false, rfl⟩
          rintro r out ⟨rfl, rfl⟩
          refine vc4 (by simp) (by simp) (by simp) ?_
          exact endQ_of [(1, 44)] _ _ (by rfl) (vc trivial) (vc trivial) (fin o (by omega) hq)
        | false =>
          simp only [Bool.false_eq_true, if_false] at ho
          refine vc ?_
          refine ⟨⟨by unfold maxLen; omega, by omega⟩, ?_⟩
          rw [if_pos (by simp)]
          refine vc ?_
          have hc := l03Split_ok (.mk true (o ++ [⟨k, v⟩]) []) (by simp [Sub.ps]; omega) (by simp [Sub.ks])
          unfold Sub.rd at hc
          simp only [Sub.leaf, Sub.ps, Sub.ks] at hc
          refine callq_of false [] hc rfl trivial (vc ?_) ?_
          · exact ⟨.inl (by simp [prC]), false, rfl⟩
          rintro r out ⟨rfl, rfl⟩
          refine vc4 (by simp) (by simp) (by simp) ?_
          refine endQ_of [(1, 84)] _ _ (by rfl) (vc trivial) (vc trivial) (fin (o ++ [⟨k, v⟩]) (by simp; omega) ?_)
          intro q hq'
          rcases List.mem_append.1 hq' with hq' | hq'
          · exact hq q hq'
          · exact .inr (List.mem_singleton.1 hq')
    | false =>
      have hfull : s.full rt = true := hfull.elim id (fun h => by rw [hl] at h; cases h.1)
      obtain ⟨hk1, hk2, hps, hkf⟩ := full_ks hfull hl
      refine callOk_z (np := 0) { fz := [(15, [3, 52]), (20, [265])] } mixed Try.func173 (by rfl) Try.ntmps173 Try.results173 (by rfl) (Nat.le_of_ble_eq_true rfl) rfl rfl rfl (vc ?_)
      have hw := l03Way_ok s k (by omega)
      unfold Sub.rd at hw
      rw [hl] at hw
      refine callq_of false [] hw rfl trivial (vc trivial) ?_
      rintro r out ⟨⟨n, rfl, hn⟩, rfl⟩
      have hn : n < s.ks.length := by omega
      refine vc4 (by simp) (by simp) (by simp) ?_
      rw [if_pos (by omega), Option.bind_some, ← List.map_take]
      refine vc ?_
      rw [im_su]
      have hx := List.getElem?_eq_getElem hn
      have htl : (List.take n s.ks).length = n := by rw [List.length_take]; omega
      refine ⟨al_su' _ _, ⟨by unfold maxLen; omega, by omega⟩, ?_⟩
      refine drawQ_of false (by rfl) (by simp) (vc ?_)
      rw [get_map hx, suC_eq]
      refine vc ?_
      have hxs := Sub.sz_mem (List.getElem_mem hn)
      have hc := ih s.ks[n] false (by omega) (by omega) (by have := Sub.pairsL_mem (List.getElem_mem hn); rw [hp, List.length_append] at hpl; omega) (.inl (hkf _ (List.getElem_mem hn)))
      unfold Sub.rd at hc
      refine calld_of [] false [] hc rfl trivial (vc trivial) (by rfl) (PutR.inh _ _) ?_
      rintro r out ⟨es, l, rfl, rfl, g1, g2, g3, g4, g5, g6, g7, g8⟩
      refine vc4 (by simp) (by simp) (by simp) ?_
      have hel : es.length = l.length := by have := g1.1; simpa using this
      rw [if_neg (by rw [g3]; simp)]
      refine vc ?_
      refine ⟨g2, ⟨by simp, by unfold maxLen; omega, by omega⟩, ?_⟩
      repeat refine ⟨rfl, ?_⟩
      rw [w64 _ (by omega)]
      rw [if_pos (by omega), Option.bind_some, List.take_of_length_le (by simp), show ((n : Int) + 1).toNat = n + 1 by omega, ← List.map_drop]
      refine vc ?_
      rw [im_su]
      have hdl : (List.drop (n + 1) s.ks).length ≤ 4 := by rw [List.length_drop]; omega
      refine ⟨al_su' _ _, ⟨by simp, by unfold maxLen; omega, by omega⟩, ?_⟩
      rw [if_pos (by simp; omega)]
      refine vc ?_
      have e : s.ks = s.ks.take n ++ s.ks[n] :: s.ks.drop (n + 1) := by rw [List.getElem_cons_drop, List.take_append_drop]
      have e1 : Sub.szL s.ks = Sub.szL (s.ks.take n) + (s.ks[n].sz + Sub.szL (s.ks.drop (n + 1))) := by
        conv => lhs; rw [e]
        rw [Sub.szL_app, Sub.szL]
      have e2 : Sub.pairsL s.ks = Sub.pairsL (s.ks.take n) ++ (s.ks[n].pairs ++ Sub.pairsL (s.ks.drop (n + 1))) := by
        conv => lhs; rw [e]
        rw [Sub.pairsL_app, Sub.pairsL]
      obtain ⟨L, hLe⟩ : ∃ L, L = s.ks.take n ++ l ++ s.ks.drop (n + 1) := ⟨_, rfl⟩
      have hL1 : Sub.szL L = Sub.szL (s.ks.take n) + Sub.szL l + Sub.szL (s.ks.drop (n + 1)) := by rw [hLe, Sub.szL_app, Sub.szL_app]
      have hL2 : Sub.pairsL L = Sub.pairsL (s.ks.take n) ++ Sub.pairsL l ++ Sub.pairsL (s.ks.drop (n + 1)) := by rw [hLe, Sub.pairsL_app, Sub.pairsL_app]
      have hll := Sub.szL_len L
      have hc := l03Split_ok (.mk false [] L) (by simp [Sub.ps]) (by show L.length ≤ 2^40; omega)
      unfold Sub.rd at hc
      simp only [Sub.leaf, Sub.ps, Sub.ks] at hc
      refine callq_of false [] hc rfl trivial (vc ?_) ?_
      · refine ⟨⟨false, rfl⟩, .inr (SimR.sim ?_ _ _)⟩
        rw [hLe, List.map_append, List.map_append]
        exact .app (.app (.su _ _ _) g1) (.su _ _ _)
      rintro r out ⟨rfl, rfl⟩
      refine vc4 (by simp) (by simp) (by simp) ?_
      refine endQ_of [(1, 297)] (.sl 1 (esS (.mk false [] L)).length) [some (.rw 115 3 (esS (.mk false [] L)))] (by rfl) (vc trivial) (vc trivial) (PutR.of ?_ ?_ ?_)
      · obtain ⟨a1, a2, a3, a4⟩ := splitS_ok (.mk false [] L)
        have e3 : (Sub.mk false [] L).sz = 1 + Sub.szL L := Sub.sz_eq _
        omega
      · rw [Sub.pairs_eq, hp, e2, hps]
        show (([] : List Pr) ++ Sub.pairsL L).length ≤ _
        rw [hL2]
        simp only [List.length_append, List.nil_append]
        omega
      · intro q hq
        rw [Sub.pairs_eq] at hq
        have hq : q ∈ ([] : List Pr) ++ Sub.pairsL L := hq
        rw [hL2, List.nil_append, List.mem_append, List.mem_append] at hq
        rw [hp, e2, hps, List.nil_append, List.mem_append, List.mem_append]
        rcases hq with (hq | hq) | hq
        · exact .inl (.inl hq)
        · rcases g8 q hq with h | h
          · exact .inl (.inr (.inl h))
          · exact .inr h
        · exact .inl (.inr (.inr hq))
end Go.Proofs.Ytnnmpdanfeejbaa.Abs

/- The draws: a key is taken out below; a sub becomes a tree. Weak contracts. -/
namespace Go.Proofs.Ytnnmpdanfeejbaa.Abs
open Go Go.Proofs
set_option maxRecDepth 10000
set_option linter.unusedVariables false
set_option linter.unusedSimpArgs false
def few (s : Sub) : Bool := if s.leaf = true then decide (s.ps.length < 2) else decide (s.ks.length < 2)
theorem l03Few_ok (s : Sub) : CallOk Try.prog 177 [] [s.rd] (fun r out => r = Bo (few s) ∧ out = []) := by
  unfold Sub.rd few
  cases hl : s.leaf with
  | true =>
    refine callOk_z (np := 0) {} mixed Try.func177 (by rfl) Try.ntmps177 Try.results177 (by rfl) (Nat.le_of_ble_eq_true rfl) rfl rfl rfl (vc ?_)
    refine brB_intro (fun h => ?_) (fun h => ?_)
    · exact EndQ.closed (.v _) ⟨by simp at h; simp [In, Bo]; omega, rfl⟩
    · exact EndQ.closed (.v _) ⟨by simp at h; simp [In, Bo]; omega, rfl⟩
  | false =>
    refine callOk_z (np := 0) {} mixed Try.func177 (by rfl) Try.ntmps177 Try.results177 (by rfl) (Nat.le_of_ble_eq_true rfl) rfl rfl rfl (vc ?_)
    exact EndQ.closed (.v _) ⟨by simp [Bo]; omega, rfl⟩
/-- What two siblings become. -/
def TogR (n m : Nat) (Q : Pr → Prop) (r : AV) (out : List (Option Ob)) : Prop := ∃ (es : List (List CV)) (l : List Sub), r = .sl 1 es.length ∧ out = [some (.rw 115 3 es)] ∧ SimR es (l.map (suC false)) ∧ (∀ e ∈ es, e.length = 3) ∧ allV es = false ∧ 1 ≤ l.length ∧ l.length ≤ 2 ∧ Sub.szL l ≤ n ∧ (Sub.pairsL l).length ≤ m ∧ ∀ q ∈ Sub.pairsL l, Q q
theorem TogR.inh (n m : Nat) (Q : Pr → Prop) (h : 1 ≤ n) : ∃ r out, TogR n m Q r out := by
  refine ⟨_, _, [[.v (.bool true), .row true [], .row true []]], [.mk true [] []], rfl, rfl, ?_, by simp, rfl, by simp, by simp, ?_, ?_, ?_⟩
  · refine .cons ?_ .nil
    rw [suC_eq]; exact .v (.cons (sim_nil _ _) (.cons (sim_nil _ _) .nil))
  · simp [Sub.szL, Sub.sz]; omega
  · simp [Sub.pairsL, Sub.pairs]
  · simp [Sub.pairsL, Sub.pairs]
theorem TogR.of {s' : Sub} {n m : Nat} {Q : Pr → Prop} (h1 : s'.sz + 1 ≤ n) (h2 : s'.pairs.length ≤ m) (h3 : ∀ q ∈ s'.pairs, Q q) : TogR n m Q (.sl 1 (esS s').length) [some (.rw 115 3 (esS s'))] := by
  obtain ⟨a1, a2, a3, a4⟩ := splitS_ok s'
  obtain ⟨b1, b2, b3, b4⟩ := esS_sim s'
  exact ⟨esS s', splitS s', rfl, rfl, b1, b2, b3, a1.1, a1.2, by omega, by omega, fun q hq => h3 q (a4 q hq)⟩
theorem together_ok (a b : Sub) (ha : a.sz ≤ 2^36 ∧ a.pairs.length ≤ 2^36) (hb : b.sz ≤ 2^36 ∧ b.pairs.length ≤ 2^36) : CallOk Try.prog 178 [] [a.rd, b.rd] (TogR (a.sz + b.sz) (a.pairs.length + b.pairs.length) (fun q => q ∈ a.pairs ∨ q ∈ b.pairs)) := by
  have a1 := Sub.sz_eq a
  have a2 := a.ks_len
  have a3 := Sub.pairs_eq a
  have b1 := Sub.sz_eq b
  have b2 := b.ks_len
  have b3 := Sub.pairs_eq b
  have a4 : a.pairs.length = a.ps.length + (Sub.pairsL a.ks).length := by rw [a3, List.length_append]
  have b4 : b.pairs.length = b.ps.length + (Sub.pairsL b.ks).length := by rw [b3, List.length_append]
  unfold Sub.rd
  refine callOk_z (np := 0) { fz := [(4, [89, 113, 161, 185])] } mixed Try.func178 (by rfl) Try.ntmps178 Try.results178 (by rfl) (Nat.le_of_ble_eq_true rfl) rfl rfl rfl (vc ?_)
  refine drawQ_of false (by rfl) (by simp) (vc ?_)
  refine ⟨⟨by unfold maxLen; omega, by omega⟩, ?_⟩
  repeat refine ⟨rfl, ?_⟩
  refine ⟨⟨by unfold maxLen; omega, by omega⟩, ?_⟩
  refine ⟨rfl, rfl, ?_⟩
  refine drawQ_of false (by rfl) (by simp) (vc ?_)
  rw [im_su]
  refine ⟨al_su' _ _, ⟨by unfold maxLen; omega, by omega⟩, ?_⟩
  repeat refine ⟨rfl, ?_⟩
  rw [im_su]
  refine ⟨al_su' _ _, ⟨by unfold maxLen; omega, by omega⟩, ?_⟩
  repeat refine ⟨rfl, ?_⟩
  rw [if_pos (by simp), if_pos (by simp), ← List.map_append, ← List.map_append]
  have e1 := Sub.szL_len (a.ks ++ b.ks)
  have e2 : Sub.szL (a.ks ++ b.ks) = Sub.szL a.ks + Sub.szL b.ks := Sub.szL_app _ _
  have e3 : Sub.pairsL (a.ks ++ b.ks) = Sub.pairsL a.ks ++ Sub.pairsL b.ks := Sub.pairsL_app _ _
  have e4 : (a.ps ++ b.ps).length = a.ps.length + b.ps.length := List.length_append
  obtain ⟨K, hK⟩ : ∃ K, K = a.ks ++ b.ks := ⟨_, rfl⟩
  obtain ⟨P, hP⟩ : ∃ P, P = a.ps ++ b.ps := ⟨_, rfl⟩
  obtain ⟨lf, hlf⟩ : ∃ x, x = a.leaf := ⟨_, rfl⟩
  rw [← hK] at e1 e2 e3
  rw [← hP] at e4
  rw [← hK, ← hP, ← hlf]
  have hc := l03Split_ok (.mk lf P K) (by show P.length ≤ _; omega) (by show K.length ≤ _; omega)
  unfold Sub.rd at hc
  simp only [Sub.leaf, Sub.ps, Sub.ks] at hc
  refine callq_of false [] hc rfl trivial (vc trivial) ?_
  rintro r out ⟨rfl, rfl⟩
  refine vc4 (by simp) (by simp) (by simp) ?_
  refine endQ_of [(1, 217)] (.sl 1 (esS (.mk lf P K)).length) [some (.rw 115 3 (esS (.mk lf P K)))] (by rfl) (vc trivial) (vc trivial) (TogR.of ?_ ?_ ?_)
  · have : (Sub.mk lf P K).sz = 1 + Sub.szL K := Sub.sz_eq _
    omega
  · have : (Sub.mk lf P K).pairs = P ++ Sub.pairsL K := Sub.pairs_eq _
    rw [this, List.length_append, e3, List.length_append]; omega
  · intro q hq
    have : (Sub.mk lf P K).pairs = P ++ Sub.pairsL K := Sub.pairs_eq _
    rw [this, e3, hP] at hq
    rw [a3, b3]
    simp only [List.mem_append] at hq ⊢
    rcases hq with (h | h) | (h | h)
    · exact .inl (.inl h)
    · exact .inr (.inl h)
    · exact .inl (.inr h)
    · exact .inr (.inr h)
/-- What a drop leaves. -/
def DropR (s : Sub) (r : AV) (out : List (Option Ob)) : Prop := ∃ s' : Sub, r = s'.rd ∧ out = [] ∧ s'.sz ≤ s.sz ∧ s'.pairs.length ≤ s.pairs.length ∧ ∀ q ∈ s'.pairs, q ∈ s.pairs
theorem drop_ok (k : ByteArray) : ∀ (f : Nat) (s : Sub) (rt : Bool), s.sz ≤ f → f ≤ 2^36 → s.pairs.length ≤ 2^36 → (s.full rt = true ∨ s.leaf = true ∧ s.ps = []) → CallOk Try.prog 172 [] [s.rd, .c (.v (.string k))] (DropR s) := by
  intro f
  induction f with
  | zero => intro s rt h; have := Sub.sz_eq s; omega
  | succ f ih =>
    intro s rt hsz hf hpl hfull
    have hs1 := Sub.sz_eq s
    have hkl := s.ks_len
    have hp := Sub.pairs_eq s
    unfold Sub.rd
    cases hl : s.leaf with
    | true =>
      refine callOk_z (np := 0) { fz := [(9, [3]), (13, [89]), (20, [497, 489])] } mixed Try.func172 (by rfl) Try.ntmps172 Try.results172 (by rfl) (Nat.le_of_ble_eq_true rfl) rfl rfl rfl (vc ?_)
      have hps : s.ps.length ≤ 4 := by
        rcases hfull with hfull | ⟨_, hfull⟩
        · rw [Sub.full_eq, hl] at hfull; simp at hfull; exact hfull.1
        · rw [hfull]; simp
      refine loopQ_of (ι := Nat × List Pr) (fun i => [(1, .c (.v (.string k))), (2, .pt 1 0 0), (4, .pt 2 0 0), (5, .sl 3 i.2.length), (15, Rw (s.ps.map prC)), (16, In s.ps.length), (17, In (i.1 : Nat))]) (fun i => [(1, .box 115 [Bo true, Rw (s.ps.map prC), Rw (s.ks.map (suC false))]), (2, .box 115 [Bo false, .nul, .nul]), (3, .rw 133 2 (i.2.map prC))]) 4 (fun i => s.ps.length - i.1) (fun i => i.1 ≤ s.ps.length ∧ i.2.length ≤ i.1 ∧ ∀ q ∈ i.2, q ∈ s.ps) (0, []) ⟨Nat.zero_le _, by simp, by simp⟩ [(2, 9), (3, 33)] (by rfl) (vc ?_) (vc ?_) (fun i hi N hN => ?_)
      · trivial
      · trivial
      obtain ⟨i, o⟩ := i
      obtain ⟨hi, ho, hq⟩ := hi
      simp only at hi ho hq hN
      refine vc (brB_intro (fun h => ?_) (fun h => ?_))
      · have h : i < s.ps.length := by simpa using h
        have hx := List.getElem?_eq_getElem h
        have hxm := List.getElem_mem h
        rw [get_map hx, prC]
        have hm : s.ps.length - (i + 1) < s.ps.length - i := by omega
        have hw : IntKind.i64.wrap (((i : Nat) : Int) + 1) = ((i + 1 : Nat) : Int) := by rw [w64 _ (by omega)]; simp
        refine vc (brB_intro (fun h1 => ?_) (fun h1 => ?_))
        · refine ⟨⟨by unfold maxLen; omega, by omega⟩, ?_⟩
          refine hN _ (i + 1, o ++ [s.ps[i]]) [(3, 100)] ⟨h, by simp; omega, ?_⟩ hm (by rfl) (vc ?_) (vc ?_)
          · intro q hq'
            rcases List.mem_append.1 hq' with hq' | hq'
            · exact hq q hq'
            · rw [List.mem_singleton] at hq'; subst hq'; exact hxm
          · rw [hw]; simp
          · rw [List.map_append]; rfl
        · refine hN _ (i + 1, o) [] ⟨h, by simp; omega, hq⟩ hm (by rfl) (vc ?_) (vc trivial)
          rw [hw]
      · refine endQ_of [] (.ag [Bo true, Rw (o.map prC), Rw []]) [] (by rfl) (vc ?_) (vc trivial) ⟨.mk true o [], rfl, rfl, ?_, ?_, ?_⟩
        · exact ⟨false, rfl⟩
        · simp [Sub.sz, Sub.szL]; omega
        · simp [Sub.pairs, Sub.pairsL, hp]; omega
        · intro q hq'
          simp [Sub.pairs, Sub.pairsL] at hq'
          rw [hp]; exact List.mem_append_left _ (hq q hq')
    | false => 
      have hfull : s.full rt = true := hfull.elim id (fun h => by rw [hl] at h; cases h.1)
      obtain ⟨hk1, hk2, hps, hkf⟩ := full_ks hfull hl
      refine callOk_z (np := 0) { fz := [(9, [3]), (13, [89]), (20, [497, 489])] } mixed Try.func172 (by rfl) Try.ntmps172 Try.results172 (by rfl) (Nat.le_of_ble_eq_true rfl) rfl rfl rfl (vc ?_)
      have hw := l03Way_ok s k (by omega)
      unfold Sub.rd at hw
      rw [hl] at hw
      refine callq_of false [] hw rfl trivial (vc trivial) ?_
      rintro r out ⟨⟨n, rfl, hn⟩, rfl⟩
      have hn : n < s.ks.length := by omega
      have hx := List.getElem?_eq_getElem hn
      refine vc4 (by simp) (by simp) (by simp) ?_
      rw [im_su]
      refine ⟨al_su' _ _, ⟨by unfold maxLen; omega, by omega⟩, ?_⟩
      refine ⟨hn, ?_⟩
      rw [get_map hx, suC_eq]
      refine vc ?_
      have hxs := Sub.sz_mem (List.getElem_mem hn)
      have hxp := Sub.pairsL_mem (List.getElem_mem hn)
      have hpl2 : s.pairs.length = s.ps.length + (Sub.pairsL s.ks).length := by rw [hp, List.length_append]
      have hc := ih s.ks[n] false (by omega) (by omega) (by omega) (.inl (hkf _ (List.getElem_mem hn)))
      unfold Sub.rd at hc
      refine callq_of false [] hc rfl trivial (vc trivial) ?_
      rintro r out ⟨s', rfl, rfl, g1, g2, g3⟩
      unfold Sub.rd
      refine vc4 (by simp) (by simp) (by simp) ?_
      refine ⟨hn, ?_⟩
      obtain ⟨K, hK⟩ : ∃ K, K = s.ks.set n s' := ⟨_, rfl⟩
      have hset : (List.map (suC false) s.ks).set n (.v (.bool s'.leaf) :: .row false (List.map prC s'.ps) :: .row false (List.map (suC false) s'.ks) :: List.drop 3 (suC false s.ks[n])) = K.map (suC false) := by
        rw [hK, List.map_set, suC_eq _ s', suC_eq]; rfl
      have hKl : K.length = s.ks.length := by rw [hK, List.length_set]
      rw [get_map hx, Option.bind_some, if_pos (by rw [suC_length]; omega), hset, ← hKl]
      refine vc ?_
      have hy : K[n]? = some s' := by rw [hK, List.getElem?_set_self hn]
      rw [get_map hy, suC_eq]
      refine vc ?_
      have hc := l03Few_ok s'
      unfold Sub.rd at hc
      refine callq_of false [] hc rfl trivial (vc trivial) ?_
      rintro r out ⟨rfl, rfl⟩
      refine vc4 (by simp) (by simp) (by simp) ?_
      have e : s.ks = s.ks.take n ++ s.ks[n] :: s.ks.drop (n + 1) := by rw [List.getElem_cons_drop, List.take_append_drop]
      have eK : K = s.ks.take n ++ s' :: s.ks.drop (n + 1) := by rw [hK, List.set_eq_take_append_cons_drop, if_pos hn]
      have e1 : Sub.szL s.ks = Sub.szL (s.ks.take n) + (s.ks[n].sz + Sub.szL (s.ks.drop (n + 1))) := by
        conv => lhs; rw [e]
        rw [Sub.szL_app, Sub.szL]
      have e2 : Sub.pairsL s.ks = Sub.pairsL (s.ks.take n) ++ (s.ks[n].pairs ++ Sub.pairsL (s.ks.drop (n + 1))) := by
        conv => lhs; rw [e]
        rw [Sub.pairsL_app, Sub.pairsL]
      have K1 : Sub.szL K = Sub.szL (s.ks.take n) + (s'.sz + Sub.szL (s.ks.drop (n + 1))) := by rw [eK, Sub.szL_app, Sub.szL]
      have K2 : Sub.pairsL K = Sub.pairsL (s.ks.take n) ++ (s'.pairs ++ Sub.pairsL (s.ks.drop (n + 1))) := by rw [eK, Sub.pairsL_app, Sub.pairsL]
      have K3 : (Sub.pairsL K).length ≤ (Sub.pairsL s.ks).length := by rw [K2, e2]; simp only [List.length_append]; omega
      have K4 : ∀ q ∈ Sub.pairsL K, q ∈ s.pairs := by
        intro q hq
        rw [K2, List.mem_append, List.mem_append] at hq
        rw [hp, e2, List.mem_append, List.mem_append, List.mem_append]
        rcases hq with hq | hq | hq
        · exact .inr (.inl hq)
        · exact .inr (.inr (.inl (g3 q hq)))
        · exact .inr (.inr (.inr hq))
      have K5 : Sub.szL K ≤ Sub.szL s.ks := by omega
      clear hset eK e1 e2 K1 K2 hK
      have hend : ∀ L : List Sub, Sub.szL L ≤ Sub.szL K → (Sub.pairsL L).length ≤ (Sub.pairsL K).length → (∀ q ∈ Sub.pairsL L, q ∈ Sub.pairsL K) → DropR s (.ag [Bo false, Rw [], Rw (L.map (suC false))]) [] := fun L h1 h2 h3 => ⟨.mk false [] L, rfl, rfl, by
        have : (Sub.mk false [] L).sz = 1 + Sub.szL L := Sub.sz_eq _
        omega, by
        have : (Sub.mk false [] L).pairs = [] ++ Sub.pairsL L := Sub.pairs_eq _
        rw [this, List.nil_append]; omega, by
        have : (Sub.mk false [] L).pairs = [] ++ Sub.pairsL L := Sub.pairs_eq _
        rw [this, List.nil_append]
        exact fun q hq => K4 q (h3 q hq)⟩
      refine brB_intro (fun h1 => ?_) (fun h1 => ?_)
      · refine endQ_of [] (.ag [Bo false, Rw [], Rw (K.map (suC false))]) [] (by rfl) (vc ?_) (vc trivial) (hend K (Nat.le_refl _) (Nat.le_refl _) (fun q hq => hq))
        exact ⟨false, rfl⟩
      refine brB_intro (fun h2 => ?_) (fun h2 => ?_)
      · refine endQ_of [] (.ag [Bo false, Rw [], Rw (K.map (suC false))]) [] (by rfl) (vc ?_) (vc trivial) (hend K (Nat.le_refl _) (Nat.le_refl _) (fun q hq => hq))
        exact ⟨false, rfl⟩
      have h2 : 2 ≤ K.length := by omega
      have hKs := Sub.szL_len K
      have hj : ∀ (j : Nat) (es : List (List CV)) (l : List Sub) (hj0 : 1 ≤ j) (hj1 : j < K.length), SimR es (l.map (suC false)) → Sub.szL l ≤ (K[j - 1]'(by omega)).sz + K[j].sz → (Sub.pairsL l).length ≤ (K[j - 1]'(by omega)).pairs.length + K[j].pairs.length → (∀ q ∈ Sub.pairsL l, q ∈ (K[j - 1]'(by omega)).pairs ∨ q ∈ K[j].pairs) → ∃ L : List Sub, SimR (List.map (suC false) (K.take (j - 1)) ++ es ++ List.map (suC false) (K.drop (j + 1))) (L.map (suC false)) ∧ Sub.szL L ≤ Sub.szL K ∧ (Sub.pairsL L).length ≤ (Sub.pairsL K).length ∧ ∀ q ∈ Sub.pairsL L, q ∈ Sub.pairsL K := by
        intro j es l hj0 hj1 q1 q2 q3 q4
        have e : K = K.take (j - 1) ++ (K[j - 1]'(by omega)) :: K[j] :: K.drop (j + 1) := by
          conv => lhs; rw [← List.take_append_drop (j - 1) K, List.drop_eq_getElem_cons (show j - 1 < K.length by omega)]
          rw [show j - 1 + 1 = j by omega, List.drop_eq_getElem_cons hj1]
        have e1 : Sub.szL K = Sub.szL (K.take (j - 1)) + ((K[j - 1]'(by omega)).sz + (K[j].sz + Sub.szL (K.drop (j + 1)))) := by
          conv => lhs; rw [e]
          rw [Sub.szL_app, Sub.szL, Sub.szL]
        have e2 : Sub.pairsL K = Sub.pairsL (K.take (j - 1)) ++ ((K[j - 1]'(by omega)).pairs ++ (K[j].pairs ++ Sub.pairsL (K.drop (j + 1)))) := by
          conv => lhs; rw [e]
          rw [Sub.pairsL_app, Sub.pairsL, Sub.pairsL]
        refine ⟨K.take (j - 1) ++ l ++ K.drop (j + 1), ?_, ?_, ?_, ?_⟩
        · rw [List.map_append, List.map_append]; exact .app (.app (.su _ _ _) q1) (.su _ _ _)
        · rw [Sub.szL_app, Sub.szL_app]; omega
        · rw [Sub.pairsL_app, Sub.pairsL_app, e2]; simp only [List.length_append]; omega
        · intro q hq
          rw [Sub.pairsL_app, Sub.pairsL_app, List.mem_append, List.mem_append] at hq
          rw [e2, List.mem_append, List.mem_append, List.mem_append]
          rcases hq with (hq | hq) | hq
          · exact .inl hq
          · rcases q4 q hq with h | h
            · exact .inr (.inl h)
            · exact .inr (.inr (.inl h))
          · exact .inr (.inr (.inr hq))
      refine brB_intro (fun h3 => ?_) (fun h3 => ?_)
      · skip
        have hj1 : 1 < K.length := by omega
        have hj2 : 0 < K.length := by omega
        have hja := List.getElem?_eq_getElem hj2
        have hjb := List.getElem?_eq_getElem hj1
        have hjs1 := Sub.sz_mem (List.getElem_mem hj1)
        have hjs2 := Sub.sz_mem (List.getElem_mem hj2)
        have hjp1 := Sub.pairsL_mem (List.getElem_mem hj1)
        have hjp2 := Sub.pairsL_mem (List.getElem_mem hj2)
        rw [show IntKind.i64.wrap (1 - 1) = ((0 : Nat) : Int) from rfl, if_pos (by omega), Option.bind_some, Int.toNat_natCast, ← List.map_take]
        refine vc ?_
        refine ⟨by unfold maxLen; omega, ?_⟩
        refine drawQ_of false (by rfl) (by simp) (vc ?_)
        rw [show IntKind.i64.wrap (1 - 1) = ((0 : Nat) : Int) from rfl, Int.toNat_natCast, get_map hja, suC_eq]
        refine vc ?_
        rw [get_map hjb, suC_eq]
        refine vc ?_
        have hc := together_ok (K[0]) K[1] (by omega) (by omega)
        unfold Sub.rd at hc
        refine calld_of [] false [] hc rfl trivial (vc trivial) (by rfl) (TogR.inh _ _ _ (by have := Sub.sz_eq K[1]; omega)) ?_
        rintro r out ⟨es, l, rfl, rfl, q1, q2, q3, q4, q5, q6, q7, q8⟩
        refine vc4 (by simp) (by simp) (by simp) ?_
        have hel : es.length = l.length := by have := q1.1; simpa using this
        rw [if_neg (by rw [q3]; simp)]
        refine vc ?_
        refine ⟨q2, ⟨by simp, by unfold maxLen; omega, by omega⟩, ?_⟩
        repeat refine ⟨rfl, ?_⟩
        rw [show IntKind.i64.wrap (1 + 1) = ((2 : Nat) : Int) from rfl, if_pos (by omega), Option.bind_some, List.take_of_length_le (by simp), Int.toNat_natCast, ← List.map_drop]
        refine vc ?_
        rw [im_su]
        have hdl : (List.drop (2) K).length ≤ 4 := by rw [List.length_drop]; omega
        refine ⟨al_su' _ _, ⟨by unfold maxLen; omega, by omega⟩, ?_⟩
        rw [if_pos (by simp)]
        refine vc ?_
        obtain ⟨L, L1, L2, L3, L4⟩ := hj 1 es l (by omega) hj1 q1 q6 q7 q8
        refine endQ_of [] (.ag [Bo false, Rw [], Rw (L.map (suC false))]) [] (by rfl) (vc ?_) (vc trivial) (hend L L2 L3 L4)
        exact ⟨⟨false, rfl⟩, .inr (SimR.sim (by simpa using L1) _ _)⟩
      · skip
        have hn1 : 1 ≤ n := by simp at h3; omega
        have hj1 : n < K.length := by omega
        have hj2 : n - 1 < K.length := by omega
        have hja := List.getElem?_eq_getElem hj2
        have hjb := List.getElem?_eq_getElem hj1
        have hjs1 := Sub.sz_mem (List.getElem_mem hj1)
        have hjs2 := Sub.sz_mem (List.getElem_mem hj2)
        have hjp1 := Sub.pairsL_mem (List.getElem_mem hj1)
        have hjp2 := Sub.pairsL_mem (List.getElem_mem hj2)
        rw [w64 ((n : Int) - 1) (by omega), show (n : Int) - 1 = ((n - 1 : Nat) : Int) by omega, if_pos (by omega), Option.bind_some, Int.toNat_natCast, ← List.map_take]
        refine vc ?_
        rw [im_su]
        have htl : (List.take (n - 1) K).length ≤ K.length := by rw [List.length_take]; omega
        refine ⟨al_su' _ _, ⟨by unfold maxLen; omega, by omega⟩, ?_⟩
        refine drawQ_of false (by rfl) (by simp) (vc ?_)
        rw [w64 ((n : Int) - 1) (by omega), show (n : Int) - 1 = ((n - 1 : Nat) : Int) by omega, Int.toNat_natCast, get_map hja, suC_eq]
        refine vc ?_
        rw [get_map hjb, suC_eq]
        refine vc ?_
        have hc := together_ok (K[n - 1]) K[n] (by omega) (by omega)
        unfold Sub.rd at hc
        refine calld_of [] false [] hc rfl trivial (vc trivial) (by rfl) (TogR.inh _ _ _ (by have := Sub.sz_eq K[n]; omega)) ?_
        rintro r out ⟨es, l, rfl, rfl, q1, q2, q3, q4, q5, q6, q7, q8⟩
        refine vc4 (by simp) (by simp) (by simp) ?_
        have hel : es.length = l.length := by have := q1.1; simpa using this
        rw [if_neg (by rw [q3]; simp)]
        refine vc ?_
        refine ⟨q2, ⟨by simp, by unfold maxLen; omega, by omega⟩, ?_⟩
        repeat refine ⟨rfl, ?_⟩
        rw [w64 ((n : Int) + 1) (by omega), show (n : Int) + 1 = ((n + 1 : Nat) : Int) by omega, if_pos (by omega), Option.bind_some, List.take_of_length_le (by simp), Int.toNat_natCast, ← List.map_drop]
        refine vc ?_
        rw [im_su]
        have hdl : (List.drop (n + 1) K).length ≤ 4 := by rw [List.length_drop]; omega
        refine ⟨al_su' _ _, ⟨by simp, by unfold maxLen; omega, by omega⟩, ?_⟩
        rw [if_pos (by simp; omega)]
        refine vc ?_
        obtain ⟨L, L1, L2, L3, L4⟩ := hj n es l (by omega) hj1 q1 q6 q7 q8
        refine endQ_of [] (.ag [Bo false, Rw [], Rw (L.map (suC false))]) [] (by rfl) (vc ?_) (vc trivial) (hend L L2 L3 L4)
        exact ⟨⟨false, rfl⟩, .inr (SimR.sim (L1) _ _)⟩
end Go.Proofs.Ytnnmpdanfeejbaa.Abs

/- The draws: trees. Weak contracts. -/
namespace Go.Proofs.Ytnnmpdanfeejbaa.Abs
open Go Go.Proofs
set_option maxRecDepth 10000
set_option linter.unusedVariables false
set_option linter.unusedSimpArgs false
mutual
theorem Sub.least_mem : ∀ (s : Sub), s.least = ⟨#[]⟩ ∨ ∃ q ∈ s.pairs, s.least = q.k
  | .mk l ps ks => by
    have hf : fstK ps = ⟨#[]⟩ ∨ ∃ q ∈ ps ++ Sub.pairsL ks, fstK ps = q.k := by
      cases ps with
      | nil => exact .inl rfl
      | cons p r => exact .inr ⟨p, by simp, rfl⟩
    rw [Sub.least, Sub.pairs]
    split
    · exact hf
    · cases hk : Sub.leastL ks with
      | none => exact hf
      | some x =>
        rcases Sub.leastL_mem ks x hk with h | ⟨q, h1, h2⟩
        · exact .inl h
        · exact .inr ⟨q, List.mem_append_right _ h1, h2⟩
theorem Sub.leastL_mem : ∀ (l : List Sub) (x : ByteArray), Sub.leastL l = some x → x = ⟨#[]⟩ ∨ ∃ q ∈ Sub.pairsL l, x = q.k
  | [], x, h => by rw [Sub.leastL] at h; cases h
  | y :: r, x, h => by
    rw [Sub.leastL] at h
    cases h
    rw [Sub.pairsL]
    rcases Sub.least_mem y with h | ⟨q, h1, h2⟩
    · exact .inl h
    · exact .inr ⟨q, List.mem_append_left _ h1, h2⟩
end
theorem Sub.leasts_sz {M : Nat} (l : List Sub) (h : ∀ q ∈ Sub.pairsL l, q.k.size ≤ M) : ∀ k ∈ Sub.leasts l, k.size ≤ M := by
  intro k hk
  rw [Sub.leasts_eq] at hk
  obtain ⟨x, hx, rfl⟩ := List.mem_map.1 hk
  rcases Sub.least_mem x with e | ⟨q, h1, h2⟩
  · rw [e]; exact Nat.zero_le _
  · rw [h2]; exact h q (pairsL_sub hx q h1)
mutual
theorem Sub.lay_kv {M : Nat} : ∀ (s : Sub) (a : Nat), (∀ q ∈ s.pairs, q.k.size ≤ M ∧ q.v.size ≤ M) → ∀ x ∈ s.lay a, (∀ p ∈ x.ps, p.k.size ≤ M ∧ p.v.size ≤ M) ∧ ∀ k ∈ x.ks, k.size ≤ M
  | .mk l ps ks, a, h, x, hx => by
    rw [Sub.pairs] at h
    rw [Sub.lay] at hx
    split at hx
    · simp at hx; subst hx
      exact ⟨fun p hp => h p (List.mem_append_left _ hp), by simp⟩
    · rcases List.mem_cons.1 hx with rfl | hx
      · refine ⟨by simp, fun k hk => ?_⟩
        exact Sub.leasts_sz ks (fun q hq => (h q (List.mem_append_right _ hq)).1) k (List.mem_of_mem_drop hk)
      · exact Sub.layL_kv ks (a + 1) (fun q hq => h q (List.mem_append_right _ hq)) x hx
theorem Sub.layL_kv {M : Nat} : ∀ (l : List Sub) (a : Nat), (∀ q ∈ Sub.pairsL l, q.k.size ≤ M ∧ q.v.size ≤ M) → ∀ x ∈ Sub.layL a l, (∀ p ∈ x.ps, p.k.size ≤ M ∧ p.v.size ≤ M) ∧ ∀ k ∈ x.ks, k.size ≤ M
  | [], a, h, x, hx => by rw [Sub.layL] at hx; simp at hx
  | y :: r, a, h, x, hx => by
    rw [Sub.layL] at hx
    rw [Sub.pairsL] at h
    rcases List.mem_append.1 hx with hx | hx
    · exact Sub.lay_kv y a (fun q hq => h q (List.mem_append_left _ hq)) x hx
    · exact Sub.layL_kv r _ (fun q hq => h q (List.mem_append_right _ hq)) x hx
end
/-- A tree that has come out of a draw. -/
def TreeR (r : AV) (out : List (Option Ob)) : Prop := ∃ L : List Nd, r = .ag [.sl 1 L.length] ∧ out = [some (.rw 125 3 (L.map (ndC true)))] ∧ small L
theorem small_nil : small [] := ⟨by simp, by simp⟩
theorem small_lay (s : Sub) (h1 : s.sz ≤ 2^20) (h2 : s.pairs.length ≤ 2^20) (h3 : ∀ q ∈ s.pairs, q.k.size ≤ 2^20 ∧ q.v.size ≤ 2^20) : small (layT [] s) := by
  have hl : layT [] s = s.lay 0 := by unfold layT; simp
  rw [hl]
  refine ⟨Nat.le_trans (Sub.lay_len s 0).2 h1, fun x hx => ?_⟩
  obtain ⟨a1, a2, a3⟩ := Sub.lay_le s 0 x hx
  obtain ⟨b1, b2⟩ := Sub.lay_kv s 0 h3 x hx
  exact ⟨by omega, by omega, by omega, b1, b2⟩
theorem tree_ok (s : Sub) (h1 : s.sz ≤ 2^20) (h2 : s.pairs.length ≤ 2^20) (h3 : ∀ q ∈ s.pairs, q.k.size ≤ 2^20 ∧ q.v.size ≤ 2^20) : CallOk Try.prog 171 [] [s.rd] TreeR := by
  unfold Sub.rd
  refine callOk_z (np := 0) {} mixed Try.func171 (by rfl) Try.ntmps171 Try.results171 (by rfl) (Nat.le_of_ble_eq_true rfl) rfl rfl rfl (vc ?_)
  refine loopQ_of (ι := Sub) (fun i => [(1, .pt 1 0 0), (2, .pt 2 0 0)]) (fun i => [(1, .box 115 [Bo i.leaf, Rw (i.ps.map prC), Rw (i.ks.map (suC false))]), (2, .box 57 [.nul])]) 3 (fun i => i.sz) (fun i => i.sz ≤ 2^20 ∧ i.pairs.length ≤ 2^20 ∧ ∀ q ∈ i.pairs, q.k.size ≤ 2^20 ∧ q.v.size ≤ 2^20) s ⟨h1, h2, h3⟩ [(2, 9)] (by rfl) (vc trivial) (vc trivial) (fun i hi N hN => ?_)
  clear h1 h2 h3
  obtain ⟨h1, h2, h3⟩ := hi
  have hsz := Sub.sz_eq i
  have hp := Sub.pairs_eq i
  have hfin : ∀ H : Hp, True := fun _ => trivial
  cases hl : i.leaf with
  | true =>
    refine vc ?_
    refine brB_intro (fun h => ?_) (fun h => ?_)
    · exact endQ_of [(1, 0)] (.ag [.sl 1 0]) [some (.rw 125 3 [])] (by rfl) (vc trivial) (vc trivial) ⟨[], rfl, rfl, small_nil⟩
    have hc := lay0_ok i (by omega) (by omega)
    unfold Sub.rd at hc
    rw [hl] at hc
    refine callq_of false [] hc rfl trivial (vc trivial) ?_
    rintro r out ⟨rfl, rfl⟩
    refine vc4 (by simp) (by simp) (by simp) ?_
    exact endQ_of [(1, 147)] (.ag [.sl 1 (layT [] i).length]) [some (.rw 125 3 ((layT [] i).map (ndC true)))] (by rfl) (vc trivial) (vc trivial) ⟨layT [] i, rfl, rfl, small_lay i h1 h2 h3⟩
  | false =>
    refine vc ?_
    refine brB_intro (fun h => ?_) (fun h => ?_)
    · have h : 0 < i.ks.length := by simp at h; omega
      have hx := List.getElem?_eq_getElem h
      rw [get_map hx, suC_eq]
      refine vc ?_
      have hm := Sub.sz_mem (List.getElem_mem h)
      have hm2 := Sub.pairsL_mem (List.getElem_mem h)
      refine hN _ (i.ks[0]) [] ⟨by omega, ?_, ?_⟩ (by omega) (by rfl) (vc trivial) (vc trivial)
      · rw [hp, List.length_append] at h2; omega
      · intro q hq
        refine h3 q ?_
        rw [hp]
        exact List.mem_append_right _ (pairsL_sub (List.getElem_mem h) q hq)
    have hc := lay0_ok i (by omega) (by omega)
    unfold Sub.rd at hc
    rw [hl] at hc
    refine callq_of false [] hc rfl trivial (vc trivial) ?_
    rintro r out ⟨rfl, rfl⟩
    refine vc4 (by simp) (by simp) (by simp) ?_
    exact endQ_of [(1, 147)] (.ag [.sl 1 (layT [] i).length]) [some (.rw 125 3 ((layT [] i).map (ndC true)))] (by rfl) (vc trivial) (vc trivial) ⟨layT [] i, rfl, rfl, small_lay i h1 h2 h3⟩
/-- A tree, and whether it could be made. -/
def TreeBR (r : AV) (out : List (Option Ob)) : Prop := ∃ (L : List Nd) (b : Bool), r = .tu [.ag [.sl 1 L.length], Bo b] ∧ out = [some (.rw 125 3 (L.map (ndC true)))] ∧ small L
theorem specOk_facts {t : List Nd} (h : specOk t) : (rootT t).1.sz ≤ 401 ∧ (rootT t).1.pairs.length ≤ 200 ∧ (∀ q ∈ (rootT t).1.pairs, keyOk q.k ∧ valOk q.v) ∧ ((rootT t).1.full true = true ∨ (rootT t).1.leaf = true ∧ (rootT t).1.ps = []) := by
  rcases h with rfl | ⟨h1, h2, h3, h4, h5, h6⟩
  · refine ⟨?_, ?_, ?_, .inr ⟨rfl, rfl⟩⟩
    · show (Sub.mk true [] []).sz ≤ 401
      simp [Sub.sz, Sub.szL]
    · show (Sub.mk true [] []).pairs.length ≤ 200
      simp [Sub.pairs, Sub.pairsL]
    · show ∀ q ∈ (Sub.mk true [] []).pairs, _
      simp [Sub.pairs, Sub.pairsL]
  · obtain ⟨a1, a2, a3⟩ := h5
    refine ⟨?_, a1, a2, .inl h3⟩
    have := (rootT_size t (t.foldl (fun m x => max m x.ps.length) 0) (fun x hx => ?_)).1
    · omega
    · have : ∀ (l : List Nd) (m : Nat), m ≤ l.foldl (fun m x => max m x.ps.length) m ∧ ∀ x ∈ l, x.ps.length ≤ l.foldl (fun m x => max m x.ps.length) m := by
        intro l
        induction l with
        | nil => intro m; simp
        | cons y r ih =>
          intro m
          have := ih (max m y.ps.length)
          rw [List.foldl_cons]
          refine ⟨by omega, fun x hx => ?_⟩
          rcases List.mem_cons.1 hx with rfl | hx
          · omega
          · exact this.2 x hx
      exact (this t 0).2 x hx
theorem drop20 (q : Pr) (h : keyOk q.k ∧ valOk q.v) : q.k.size ≤ 2^20 ∧ q.v.size ≤ 2^20 := by
  obtain ⟨⟨_, h1⟩, h2⟩ := h
  unfold valOk at h2
  omega
theorem treeDrop_ok {t : List Nd} (hs : small t) (k : ByteArray) : CallOk Try.prog 166 [] [treeAg t, .c (.v (.string k))] TreeBR := by
  have hto := specTreeOk_small hs
  obtain ⟨⟨z1, z2⟩, -, -, -⟩ := small_ok hs
  have hro := root_ok t z1 z2
  have hbad : ∀ H : Hp, EndQ 0 H (.tu [.ag [.nul], Bo false]) TreeBR := fun H => endQ_of [(1, 0)] (.tu [.ag [.sl 1 0], Bo false]) [some (.rw 125 3 [])] (by rfl) (vc trivial) (vc trivial) ⟨[], false, rfl, rfl, small_nil⟩
  unfold treeAg at *
  simp only [Sub.ow, Sub.obs] at hro
  refine callOk_z (np := 0) { fz := [(4, [97, 98])] } mixed Try.func166 (by rfl) Try.ntmps166 Try.results166 (by rfl) (Nat.le_of_ble_eq_true rfl) rfl rfl rfl (vc ?_)
  refine callq_of false [] hto rfl trivial (vc trivial) ?_
  rintro r out ⟨rfl, rfl⟩
  refine vc4 (by simp) (by simp) (by simp) ?_
  by_cases hok : specOk t
  · rw [tf_true hok]
    refine vc ?_
    refine callq_of false [] (specKeyOk_ok k) rfl trivial (vc trivial) ?_
    rintro r out ⟨rfl, rfl⟩
    refine vc4 (by simp) (by simp) (by simp) ?_
    refine brB_intro (fun h1 => ?_) (fun h1 => ?_)
    · exact hbad _
    obtain ⟨f1, f2, f3, f4⟩ := specOk_facts hok
    refine callq_of false [] hro rfl trivial (vc trivial) ?_
    rintro r out ⟨rfl, rfl⟩
    refine vc4 (by simp) (by simp) (by simp) ?_
    have hc := drop_ok k (rootT t).1.sz (rootT t).1 true (Nat.le_refl _) (by omega) (by omega) f4
    unfold Sub.rd at hc
    refine callq_of false [] hc rfl trivial (vc trivial) ?_
    rintro r out ⟨s', rfl, rfl, g1, g2, g3⟩
    refine vc4 (by simp) (by simp) (by simp) ?_
    have hc := tree_ok s' (by omega) (by omega) (fun q hq => drop20 q (f3 q (g3 q hq)))
    refine callq_of false [] hc rfl trivial (by unfold Sub.rd; exact vc trivial) ?_
    rintro r out ⟨L, rfl, rfl, hL⟩
    refine vc4 (by simp) (by simp) (by simp) ?_
    exact endQ_of [(1, 177)] (.tu [.ag [.sl 1 L.length], Bo true]) [some (.rw 125 3 (L.map (ndC true)))] (by rfl) (vc trivial) (vc trivial) ⟨L, true, rfl, rfl, hL⟩
  · rw [tf_false hok]
    refine vc ?_
    exact hbad _
theorem treePut_ok {t : List Nd} (hs : small t) (k v : ByteArray) : CallOk Try.prog 167 [] [treeAg t, .c (.v (.string k)), .c (.v (.string v))] TreeBR := by
  have hto := specTreeOk_small hs
  obtain ⟨⟨z1, z2⟩, -, -, -⟩ := small_ok hs
  have hro := root_ok t z1 z2
  have hbad : ∀ H : Hp, EndQ 0 H (.tu [.ag [.nul], Bo false]) TreeBR := fun H => endQ_of [(1, 0)] (.tu [.ag [.sl 1 0], Bo false]) [some (.rw 125 3 [])] (by rfl) (vc trivial) (vc trivial) ⟨[], false, rfl, rfl, small_nil⟩
  unfold treeAg at *
  simp only [Sub.ow, Sub.obs] at hro
  refine callOk_z (np := 0) { fz := [(4, [137, 138]), (5, [225])] } mixed Try.func167 (by rfl) Try.ntmps167 Try.results167 (by rfl) (Nat.le_of_ble_eq_true rfl) rfl rfl rfl (vc ?_)
  refine callq_of false [] hto rfl trivial (vc trivial) ?_
  rintro r out ⟨rfl, rfl⟩
  refine vc4 (by simp) (by simp) (by simp) ?_
  by_cases hok : specOk t
  · rw [tf_true hok]
    refine vc ?_
    refine callq_of false [] (specKeyOk_ok k) rfl trivial (vc trivial) ?_
    rintro r out ⟨rfl, rfl⟩
    refine vc4 (by simp) (by simp) (by simp) ?_
    by_cases hkey : keyOk k
    · rw [tf_true hkey]
      refine vc ?_
      refine callq_of false [] (specValOk_ok v) rfl trivial (vc trivial) ?_
      rintro r out ⟨rfl, rfl⟩
      refine vc4 (by simp) (by simp) (by simp) ?_
      by_cases hval : valOk v
      · rw [tf_true hval]
        refine vc ?_
        obtain ⟨f1, f2, f3, f4⟩ := specOk_facts hok
        refine callq_of false [] hro rfl trivial (vc trivial) ?_
        rintro r out ⟨rfl, rfl⟩
        refine vc4 (by simp) (by simp) (by simp) ?_
        have hc := put_ok ⟨k, v⟩ (rootT t).1.sz (rootT t).1 true (Nat.le_refl _) (by omega) (by omega) f4
        unfold Sub.rd at hc
        refine callq_of false [] hc rfl trivial (vc trivial) ?_
        rintro r out ⟨es, l, rfl, rfl, q1, q2, q3, q4, q5, q6, q7, q8⟩
        refine vc4 (by simp) (by simp) (by simp) ?_
        have u1 : (Sub.mk false [] l).sz = 1 + Sub.szL l := Sub.sz_eq _
        have u2 : (Sub.mk false [] l).pairs = [] ++ Sub.pairsL l := Sub.pairs_eq _
        rw [List.nil_append] at u2
        have hc := pairs_ok (Sub.mk false [] l).sz (Sub.mk false [] l) (Nat.le_refl _) (by omega) (by rw [u2]; omega)
        unfold Sub.rd at hc
        simp only [Sub.leaf, Sub.ps, Sub.ks] at hc
        refine callq_of false [] hc rfl trivial (vc ?_) ?_
        · exact ⟨⟨false, rfl⟩, .inr (SimR.sim q1 _ _)⟩
        rintro r out ⟨rfl, rfl⟩
        refine vc4 (by simp) (by simp) (by simp) ?_
        refine brB_intro (fun h1 => ?_) (fun h1 => ?_)
        · exact hbad _
        have hc := tree_ok (Sub.mk false [] l) (by omega) (by rw [u2]; omega) (fun q hq => drop20 q (by
          rw [u2] at hq
          rcases q8 q hq with h | h
          · exact f3 q h
          · subst h; exact ⟨hkey, hval⟩))
        unfold Sub.rd at hc
        simp only [Sub.leaf, Sub.ps, Sub.ks] at hc
        refine callq_of false [] hc rfl trivial (vc ?_) ?_
        · exact ⟨⟨false, rfl⟩, .inr (SimR.sim q1 _ _)⟩
        rintro r out ⟨L, rfl, rfl, hL⟩
        refine vc4 (by simp) (by simp) (by simp) ?_
        exact endQ_of [(1, 313)] (.tu [.ag [.sl 1 L.length], Bo true]) [some (.rw 125 3 (L.map (ndC true)))] (by rfl) (vc trivial) (vc trivial) ⟨L, true, rfl, rfl, hL⟩
      · rw [tf_false hval]
        refine vc ?_
        exact hbad _
    · rw [tf_false hkey]
      refine vc ?_
      exact hbad _
  · rw [tf_false hok]
    refine vc ?_
    exact hbad _
theorem TreeBR.inh : ∃ r out, TreeBR r out := ⟨_, _, [], false, rfl, rfl, small_nil⟩
theorem StrP.inh (b : List UInt8) (m : Nat) : ∃ r out, StrP b m r out := ⟨.c (.v (.string ⟨#[]⟩)), [some (curO b 0 0)], ⟨_, rfl, Nat.zero_le _⟩, 0, 0, Nat.zero_le _, rfl⟩
theorem NumP.inh (b : List UInt8) (m : Int) : ∃ r out, NumP b 0 (max 0 m) r out := ⟨In 0, [some (curO b 0 0)], ⟨0, rfl, by omega, by omega⟩, 0, 0, Nat.zero_le _, rfl⟩
theorem treeBR_rs (L : List Nd) (b : Bool) : true = true → Rs true 1 (.tu [.ag [.sl 1 L.length], Bo b]) ∧ ∀ ob, some ob ∈ [some (Ob.rw 125 3 (L.map (ndC true)))] → RsOb true 1 ob := fun _ => ⟨.tu _ (by simp; exact ⟨.ag _ (by simp; exact .sl 1 _ (by omega) (by omega)), .v _⟩), by
    intro ob h; simp at h; subst h; exact .inr (own_nd _)⟩
theorem l03Draw_ok (b : List UInt8) (hb : b.length ≤ 2^40) (i : Nat) (h : Int) (hi : i ≤ b.length) (m : Nat) (hm : m ≤ 100) : CallOk Try.prog 155 [curO b i h] [.pt 1 0 0, In m] (fun r out => ∃ L : List Nd, r = .ag [.sl 2 L.length] ∧ (∃ (i : Nat) (h : Int), i ≤ b.length ∧ out = [some (curO b i h), some (.rw 125 3 (L.map (ndC true)))]) ∧ small L) := by
  refine callOk_z (np := 1) {} mixed Try.func155 (by rfl) Try.ntmps155 Try.results155 (by rfl) (Nat.le_of_ble_eq_true rfl) rfl rfl rfl (vc ?_)
  rw [w64 _ (by omega)]
  have hc := l01Below_ok b hb i h hi ((m : Nat) + 1) (by omega)
  unfold curO at hc ⊢
  refine callq_of false [1] hc rfl (vc trivial) (vc trivial) ?_
  rintro r out ⟨⟨x, rfl, hx0, hx1⟩, i, h, hi, rfl⟩
  unfold curO
  refine vc4 (by simp) (by simp) (by simp) ?_
  obtain ⟨n, rfl⟩ : ∃ n : Nat, x = n := ⟨x.toNat, by omega⟩
  refine loopQ_of (ι := Nat × Int × Nat × List Nd) (fun i => [(0, .pt 1 0 0), (4, .pt 2 0 0), (5, .pt 3 0 0), (6, In (i.2.2.1 : Nat))]) (fun i => [(1, .box 179 [Rw (eB b), In (i.1 : Nat), In i.2.1]), (2, .box 57 [.nul]), (3, .box 57 [.sl 4 i.2.2.2.length]), (4, .rw 125 3 (i.2.2.2.map (ndC true)))]) 5 (fun i => i.2.2.1) (fun i => i.1 ≤ b.length ∧ i.2.2.1 ≤ 200 ∧ small i.2.2.2) (i, h, n, []) ⟨hi, by show n ≤ 200; omega, small_nil⟩ [(3, 18), (4, 0)] (by rfl) (vc trivial) (vc trivial) (fun i hi N hN => ?_)
  obtain ⟨i, h, n, L⟩ := i
  obtain ⟨hi, hn, hL⟩ := hi
  simp only at hi hn hL hN
  refine vc (brB_intro (fun h1 => ?_) (fun h1 => ?_))
  · have h1 : 0 < n := by simpa using h1
    have hw : IntKind.i64.wrap (((n : Nat) : Int) - 1) = ((n - 1 : Nat) : Int) := by rw [w64 _ (by omega)]; omega
    have hc := l01Below_ok b hb i h hi 5 (by omega)
    unfold curO at hc
    refine callq_of false [1] hc rfl (vc trivial) (vc trivial) ?_
    rintro r out ⟨⟨x, rfl, hx0, hx1⟩, i, h, hi, rfl⟩
    unfold curO
    refine vc4 (by simp) (by simp) (by simp) ?_
    refine brB_intro (fun h2 => ?_) (fun h2 => ?_)
    · refine drawQ_of true (by rfl) (by intro _; refine ⟨?_, ?_⟩; (repeat first | exact fun _ => rfl | exact fun _ => nbk_A _ | refine nb_upd rfl ?_); (repeat first | exact fun _ => rfl | exact fun _ => nbo_kill _ | exact nbo_HpS0 | refine nbo_upd rfl ?_)) (vc ?_)
      have hc := l02Key_ok b hb i h hi
      unfold curO at hc
      refine calld_of [1] false [1] hc rfl (vc trivial) (vc trivial) (by rfl) (StrP.inh b 16) ?_
      rintro r out ⟨⟨k, rfl, hk⟩, i, h, hi, rfl⟩
      unfold curO
      refine vc4 (by simp) (by simp) (by simp) ?_
      have hc := treeDrop_ok hL k
      unfold treeAg at hc
      refine calld_of [4] true [] hc rfl (vc trivial) (vc trivial) (by rfl) TreeBR.inh ?_
      rintro r out ⟨L2, b2, rfl, rfl, hL2⟩
      refine ⟨by simp, by simp, treeBR_rs L2 b2, vc ?_⟩
      repeat refine ⟨rfl, ?_⟩
      rw [hw]
      exact hN _ (i, h, n - 1, L2) [(4, 69)] ⟨hi, by show n - 1 ≤ 200; omega, hL2⟩ (by show n - 1 < n; omega) (by rfl) (vc trivial) (vc trivial)
    · refine drawQ_of true (by rfl) (by intro _; refine ⟨?_, ?_⟩; (repeat first | exact fun _ => rfl | exact fun _ => nbk_A _ | refine nb_upd rfl ?_); (repeat first | exact fun _ => rfl | exact fun _ => nbo_kill _ | exact nbo_HpS0 | refine nbo_upd rfl ?_)) (vc ?_)
      have hc := l02Key_ok b hb i h hi
      unfold curO at hc
      refine calld_of [1] false [1] hc rfl (vc trivial) (vc trivial) (by rfl) (StrP.inh b 16) ?_
      rintro r out ⟨⟨k, rfl, hk⟩, i, h, hi, rfl⟩
      unfold curO
      refine vc4 (by simp) (by simp) (by simp) ?_
      have hc := l02Val_ok b hb i h hi
      unfold curO at hc
      refine calld_of [1] false [1] hc rfl (vc trivial) (vc trivial) (by rfl) (StrP.inh b 60) ?_
      rintro r out ⟨⟨v, rfl, hv⟩, i, h, hi, rfl⟩
      unfold curO
      refine vc4 (by simp) (by simp) (by simp) ?_
      have hc := treePut_ok hL k v
      unfold treeAg at hc
      refine calld_of [4] true [] hc rfl (vc trivial) (vc trivial) (by rfl) TreeBR.inh ?_
      rintro r out ⟨L2, b2, rfl, rfl, hL2⟩
      refine ⟨by simp, by simp, treeBR_rs L2 b2, vc ?_⟩
      repeat refine ⟨rfl, ?_⟩
      rw [hw]
      refine brB_intro (fun h3 => ?_) (fun h3 => ?_)
      · exact hN _ (i, h, n - 1, L2) [(4, 85)] ⟨hi, by show n - 1 ≤ 200; omega, hL2⟩ (by show n - 1 < n; omega) (by rfl) (vc trivial) (vc trivial)
      · exact hN _ (i, h, n - 1, L) [] ⟨hi, by show n - 1 ≤ 200; omega, hL⟩ (by show n - 1 < n; omega) (by rfl) (vc trivial) (vc trivial)
  · exact endQ_of [(2, 4)] (.ag [.sl 2 L.length]) [some (.box 179 [Rw (eB b), In i, In h]), some (.rw 125 3 (L.map (ndC true)))] (by rfl) (vc trivial) (vc trivial) ⟨L, rfl, ⟨i, h, hi, rfl⟩, hL⟩
end Go.Proofs.Ytnnmpdanfeejbaa.Abs

/- Disks that are synced; operations done one by one: both by the same words. -/
namespace Go.Proofs.Ytnnmpdanfeejbaa.Abs
open Go Go.Proofs
set_option maxRecDepth 10000
set_option linter.unusedVariables false
set_option linter.unusedSimpArgs false
noncomputable def Dk.sync (d : Dk) : Dk := d.crash (List.replicate d.wr.length 512)
theorem Dk.ok.fits {d : Dk} (h : d.ok) : d.fits (2^40) := by
  obtain ⟨h1, h2, h3⟩ := h
  refine ⟨by omega, fun x hx => ?_, by omega, fun x hx => ?_⟩
  · rcases h2 x hx with e | e <;> omega
  · have := (h3 x hx).2; omega
theorem Dk.ok.crash {d : Dk} (h : d.ok) (keep : List Int) : (d.crash keep).ok := by
  rw [show d.crash keep = ⟨crashL d.sh d.wr keep d.wr.length, []⟩ from if_pos h]
  have := h.1
  exact ⟨by simp [crashL_len]; omega, crashL_ok keep h.2.1 h.2.2 _, fun x hx => by cases hx⟩
theorem Dk.ok.write {d : Dk} (h : d.ok) {a : Int} {b : List UInt8} (hw : Dk.wrOk d.sh.length (a, b)) (hl : d.wr.length < 500) : (⟨d.sh, d.wr ++ [(a, b)]⟩ : Dk).ok := by
  have := h.1
  refine ⟨by simp; omega, h.2.1, fun x hx => ?_⟩
  rcases List.mem_append.1 hx with hx | hx
  · exact h.2.2 x hx
  · simp at hx; subst hx; exact hw
theorem repl_next (n : Nat) : (List.replicate n (512 : Int)).map inC ++ [[CV.v (.int .i64 512)]] = (List.replicate (n + 1) (512 : Int)).map inC := by
  rw [List.replicate_succ', List.map_append]; rfl
theorem specDiskSync_ok (d : Dk) (hd : d.fits (2^40)) : CallOk Try.prog 97 [] [d.rd] (fun r out => r = d.sync.ow ∧ out = d.sync.obs.map some) := by
  have hc := specDiskCrash_ok d hd (List.replicate d.wr.length 512) (by rw [List.length_replicate]; exact hd.2.2.1)
  unfold Dk.rd at hc ⊢
  have hf2 := hd.2.2.1
  refine callOk_z (np := 0) {} mixed Try.func97 (by rfl) Try.ntmps97 Try.results97 (by rfl) (Nat.le_of_ble_eq_true rfl) rfl rfl rfl (vc ?_)
  refine loopQ_of (fun i => [(1, .pt 1 0 0), (2, .pt 2 0 0), (3, .sl 3 i), (7, In d.wr.length), (8, In (i : Nat))]) (fun i => [(1, .box 31 [Rw (d.sh.map (shC false)), Rw (d.wr.map (wrC false))]), (2, .box 31 [.nul, .nul]), (3, .rw 3 1 ((List.replicate i (512 : Int)).map inC))]) 4 (fun i => d.wr.length - i) (fun i => i ≤ d.wr.length) 0 (Nat.zero_le _) [(2, 9), (3, 17)] (by rfl) (vc trivial) (vc trivial) (fun i hi N hN => vc (brB_intro (fun h => ?_) (fun h => ?_)))
  · have h : i < d.wr.length := by simpa using h
    refine ⟨⟨by unfold maxLen; omega, by omega⟩, ?_⟩
    refine hN _ (i + 1) [(3, 28)] h (by omega) (by rfl) (vc ?_) (vc (repl_next i))
    rw [w64 _ (by omega)]; simp
  · have h : i = d.wr.length := by simp at h; omega
    subst h
    refine callq_of true [] hc rfl trivial (vc trivial) ?_
    rintro r out ⟨rfl, rfl⟩
    refine ⟨by simp, by simp [Dk.obs], fun _ => ⟨rs_ow _ (by simp [Dk.obs]), rso_ow _⟩, ?_⟩
    rw [show d.crash (List.replicate d.wr.length 512) = d.sync from rfl]
    unfold Dk.ow Dk.obs
    refine vc ?_
    exact endQ_of [(1, 28), (2, 29)] d.sync.ow (d.sync.obs.map some) (by rfl) (by unfold Dk.ow; exact vc trivial) (by unfold Dk.obs; exact vc trivial) ⟨rfl, rfl⟩
theorem implDiskSync_ok (d : Dk) (hd : d.fits (2^40)) : CallOk Try.prog 53 [] [d.rd] (fun r out => r = d.sync.ow ∧ out = d.sync.obs.map some) := by
  have hc := implDiskCrash_ok d hd (List.replicate d.wr.length 512) (by rw [List.length_replicate]; exact hd.2.2.1)
  unfold Dk.rd at hc ⊢
  have hf2 := hd.2.2.1
  refine callOk_z (np := 0) {} mixed Try.func53 (by rfl) Try.ntmps53 Try.results53 (by rfl) (Nat.le_of_ble_eq_true rfl) rfl rfl rfl (vc ?_)
  refine loopQ_of (fun i => [(1, .pt 1 0 0), (2, .pt 2 0 0), (3, .sl 3 i), (7, In d.wr.length), (8, In (i : Nat))]) (fun i => [(1, .box 31 [Rw (d.sh.map (shC false)), Rw (d.wr.map (wrC false))]), (2, .box 31 [.nul, .nul]), (3, .rw 3 1 ((List.replicate i (512 : Int)).map inC))]) 4 (fun i => d.wr.length - i) (fun i => i ≤ d.wr.length) 0 (Nat.zero_le _) [(2, 9), (3, 17)] (by rfl) (vc trivial) (vc trivial) (fun i hi N hN => vc (brB_intro (fun h => ?_) (fun h => ?_)))
  · have h : i < d.wr.length := by simpa using h
    refine ⟨⟨by unfold maxLen; omega, by omega⟩, ?_⟩
    refine hN _ (i + 1) [(3, 28)] h (by omega) (by rfl) (vc ?_) (vc (repl_next i))
    rw [w64 _ (by omega)]; simp
  · have h : i = d.wr.length := by simp at h; omega
    subst h
    refine callq_of true [] hc rfl trivial (vc trivial) ?_
    rintro r out ⟨rfl, rfl⟩
    refine ⟨by simp, by simp [Dk.obs], fun _ => ⟨rs_ow _ (by simp [Dk.obs]), rso_ow _⟩, ?_⟩
    rw [show d.crash (List.replicate d.wr.length 512) = d.sync from rfl]
    unfold Dk.ow Dk.obs
    refine vc ?_
    exact endQ_of [(1, 28), (2, 29)] d.sync.ow (d.sync.obs.map some) (by rfl) (by unfold Dk.ow; exact vc trivial) (by unfold Dk.obs; exact vc trivial) ⟨rfl, rfl⟩
open Classical in
noncomputable def opStep (d : Dk) (o : Bool × Int × List UInt8) : Option Dk :=
  if o.1 = true then some d.sync else if (d.write o.2.1 o.2.2).2 = true then some (d.write o.2.1 o.2.2).1 else none
noncomputable def opsL (d : Dk) : List (Bool × Int × List UInt8) → Option Dk
  | [] => some d
  | o :: r => (opStep d o).bind fun d' => opsL d' r
open Classical in
noncomputable def Dk.doOps (d : Dk) (l : List (Bool × Int × List UInt8)) : Dk := if d.ok then (opsL d l).getD ⟨[], []⟩ else ⟨[], []⟩
theorem opsL_app (d : Dk) (a b : List (Bool × Int × List UInt8)) : opsL d (a ++ b) = (opsL d a).bind fun d' => opsL d' b := by
  induction a generalizing d with
  | nil => rfl
  | cons o r ih =>
    rw [List.cons_append, opsL, opsL]
    cases opStep d o with
    | none => rfl
    | some d' => exact ih d'
theorem opsL_next {d d' : Dk} {l : List (Bool × Int × List UInt8)} {i : Nat} {o : Bool × Int × List UInt8} (h : opsL d (l.take i) = some d') (ho : l[i]? = some o) : opsL d (l.take (i + 1)) = opStep d' o := by
  rw [List.take_add_one, ho, opsL_app, h]
  show opsL d' [o] = _
  rw [opsL]
  cases opStep d' o <;> rfl
theorem opsL_fail {d d' : Dk} {l : List (Bool × Int × List UInt8)} {i : Nat} {o : Bool × Int × List UInt8} (h : opsL d (l.take i) = some d') (ho : l[i]? = some o) (hn : opStep d' o = none) : opsL d l = none := by
  have h1 := opsL_next h ho
  rw [hn] at h1
  rw [← List.take_append_drop (i + 1) l, opsL_app, h1]; rfl
theorem opStep_ok {d d' : Dk} {o : Bool × Int × List UInt8} (hd : d.ok) (h : opStep d o = some d') : d'.ok := by
  unfold opStep at h
  split at h
  · cases h; exact hd.crash _
  · split at h
    · rename_i hw
      cases h
      unfold Dk.write at hw ⊢
      split
      · rename_i hc; exact hd.write hc.2.1 hc.2.2
      · rename_i hc; rw [if_neg hc] at hw; cases hw
    · cases h
theorem specDoOps_ok (d : Dk) (hd : d.fits (2^40)) (l : List (Bool × Int × List UInt8)) (hl : l.length ≤ 2^40) (hs : ∀ x ∈ l, x.2.2.length ≤ 2^40) : CallOk Try.prog 37 [] [d.rd, Rw (l.map (opC false))] (fun r out => r = (d.doOps l).ow ∧ out = (d.doOps l).obs.map some) := by
  unfold Dk.rd
  refine callOk_z (np := 0) {} mixed Try.func37 (by rfl) Try.ntmps37 Try.results37 (by rfl) (Nat.le_of_ble_eq_true rfl) rfl rfl rfl (vc ?_)
  have hnil : ∀ H : Hp, d.doOps l = ⟨[], []⟩ → EndQ 0 H (.ag [.nul, .nul]) (fun r out => r = (d.doOps l).ow ∧ out = (d.doOps l).obs.map some) := fun H hk => by
    rw [hk]
    exact endQ_of [(1, 0), (2, 0)] (⟨[], []⟩ : Dk).ow ((⟨[], []⟩ : Dk).obs.map some) (by rfl) (by unfold Dk.ow; exact vc trivial) (by unfold Dk.obs; exact vc trivial) ⟨rfl, rfl⟩
  refine callq_of false [] (specDiskOk_ok d hd) rfl trivial (by unfold Dk.rd; exact vc trivial) ?_
  rintro r out ⟨rfl, rfl⟩
  refine ⟨by simp, by simp, by simp, vc ?_⟩
  refine brB_intro (fun h => ?_) (fun h => ?_)
  · exact hnil _ (if_neg (fun e => by rw [tf_true e] at h; simp at h))
  have hok : d.ok := by
    by_cases e : d.ok
    · exact e
    · rw [tf_false e] at h; simp at h
  have hdo : d.doOps l = (opsL d l).getD ⟨[], []⟩ := if_pos hok
  refine callq_of false [] (l05Copy_ok d hd) rfl trivial (by unfold Dk.rd; exact vc trivial) ?_
  rintro r out ⟨rfl, rfl⟩
  refine ⟨by simp, by simp [Dk.obs], by simp, ?_⟩
  unfold Dk.ow Dk.obs
  refine vc ?_
  refine loopQ_of (ι := Nat × Dk) (fun i => [(4, .pt 2 0 0), (5, .pt 3 0 0), (16, Rw (l.map (opC false))), (17, In l.length), (18, In (i.1 : Nat))]) (fun i => [(2, .box 31 [.nul, .nul]), (3, .box 31 [.sl 4 i.2.sh.length, .sl 5 i.2.wr.length]), (4, .rw 155 1 (i.2.sh.map (shC true))), (5, .rw 90 2 (i.2.wr.map (wrC true)))]) 6 (fun i => l.length - i.1) (fun i => i.1 ≤ l.length ∧ opsL d (l.take i.1) = some i.2 ∧ i.2.ok) (0, d) ⟨Nat.zero_le _, rfl, hok⟩ [(2, 9), (3, 57), (4, 49), (5, 50)] (by rfl) (vc trivial) (vc trivial) (fun i hi N hN => ?_)
  obtain ⟨i, e⟩ := i
  obtain ⟨hi, hL, heo⟩ := hi
  simp only at hi hL heo hN
  refine vc (brB_intro (fun h => ?_) (fun h => ?_))
  · have h : i < l.length := by simpa using h
    have hx := List.getElem?_eq_getElem h
    have hfx := hs _ (List.getElem_mem h)
    generalize hW : l[i] = wi at hx hfx ⊢
    obtain ⟨ws, wa, wb⟩ := wi
    rw [get_map hx, opC]
    refine vc ?_
    refine brB_intro (fun hs1 => ?_) (fun hs1 => ?_)
    · have hst : opStep e (ws, wa, wb) = some e.sync := if_pos hs1
      refine callq_of true [] (specDiskSync_ok e heo.fits) rfl trivial (by unfold Dk.rd; exact vc trivial) ?_
      rintro r out ⟨rfl, rfl⟩
      refine ⟨by simp, by simp [Dk.obs], fun _ => ⟨rs_ow _ (by simp [Dk.obs]), rso_ow _⟩, ?_⟩
      unfold Dk.ow Dk.obs
      refine vc ?_
      refine hN _ (i + 1, e.sync) [(4, 70), (5, 71)] ⟨h, (opsL_next hL hx).trans hst, opStep_ok heo hst⟩ (by show l.length - (i + 1) < l.length - i; omega) (by rfl) (vc ?_) (vc trivial)
      rw [w64 _ (by omega)]; simp
    · have hst : opStep e (ws, wa, wb) = if (e.write wa wb).2 = true then some (e.write wa wb).1 else none := if_neg (by simp [hs1])
      refine callq_of true [] (specDiskWrite_ok e heo.fits wa wb hfx) rfl trivial (by unfold Dk.rd; exact vc trivial) ?_
      generalize hR : e.write wa wb = R at hst ⊢
      obtain ⟨R1, R2⟩ := R
      rintro r out ⟨rfl, rfl⟩
      refine ⟨by simp, by simp [Dk.obs], fun _ => ⟨.tu _ (by intro c hc; simp at hc; rcases hc with rfl | rfl; exact rs_ow _ (by simp [Dk.obs]); exact .v _), rso_ow _⟩, ?_⟩
      unfold Dk.ow Dk.obs
      refine vc ?_
      cases R2
      · refine vc ?_
        exact hnil _ (by rw [hdo, opsL_fail hL hx hst]; rfl)
      · refine vc ?_
        refine hN _ (i + 1, R1) [(4, 118), (5, 119)] ⟨h, (opsL_next hL hx).trans hst, opStep_ok heo hst⟩ (by show l.length - (i + 1) < l.length - i; omega) (by rfl) (vc ?_) (vc trivial)
        rw [w64 _ (by omega)]; simp
  · have h : i = l.length := by simp at h; omega
    rw [h, List.take_length] at hL
    rw [show d.doOps l = e by rw [hdo, hL]; rfl]
    exact endQ_of [(1, 4), (2, 5)] (.ag [.sl 1 e.sh.length, .sl 2 e.wr.length]) [some (.rw 155 1 (e.sh.map (shC true))), some (.rw 90 2 (e.wr.map (wrC true)))] (by rfl) (vc trivial) (vc trivial) ⟨rfl, rfl⟩
theorem implDoOps_ok (d : Dk) (hd : d.fits (2^40)) (l : List (Bool × Int × List UInt8)) (hl : l.length ≤ 2^40) (hs : ∀ x ∈ l, x.2.2.length ≤ 2^40) : CallOk Try.prog 39 [] [d.rd, Rw (l.map (opC false))] (fun r out => r = (d.doOps l).ow ∧ out = (d.doOps l).obs.map some) := by
  unfold Dk.rd
  refine callOk_z (np := 0) {} mixed Try.func39 (by rfl) Try.ntmps39 Try.results39 (by rfl) (Nat.le_of_ble_eq_true rfl) rfl rfl rfl (vc ?_)
  have hnil : ∀ H : Hp, d.doOps l = ⟨[], []⟩ → EndQ 0 H (.ag [.nul, .nul]) (fun r out => r = (d.doOps l).ow ∧ out = (d.doOps l).obs.map some) := fun H hk => by
    rw [hk]
    exact endQ_of [(1, 0), (2, 0)] (⟨[], []⟩ : Dk).ow ((⟨[], []⟩ : Dk).obs.map some) (by rfl) (by unfold Dk.ow; exact vc trivial) (by unfold Dk.obs; exact vc trivial) ⟨rfl, rfl⟩
  refine callq_of false [] (implDiskOk_ok d hd) rfl trivial (by unfold Dk.rd; exact vc trivial) ?_
  rintro r out ⟨rfl, rfl⟩
  refine ⟨by simp, by simp, by simp, vc ?_⟩
  refine brB_intro (fun h => ?_) (fun h => ?_)
  · exact hnil _ (if_neg (fun e => by rw [tf_true e] at h; simp at h))
  have hok : d.ok := by
    by_cases e : d.ok
    · exact e
    · rw [tf_false e] at h; simp at h
  have hdo : d.doOps l = (opsL d l).getD ⟨[], []⟩ := if_pos hok
  refine callq_of false [] (copyDisk_ok d hd) rfl trivial (by unfold Dk.rd; exact vc trivial) ?_
  rintro r out ⟨rfl, rfl⟩
  refine ⟨by simp, by simp [Dk.obs], by simp, ?_⟩
  unfold Dk.ow Dk.obs
  refine vc ?_
  refine loopQ_of (ι := Nat × Dk) (fun i => [(4, .pt 2 0 0), (5, .pt 3 0 0), (14, Rw (l.map (opC false))), (15, In l.length), (16, In (i.1 : Nat))]) (fun i => [(2, .box 31 [.nul, .nul]), (3, .box 31 [.sl 4 i.2.sh.length, .sl 5 i.2.wr.length]), (4, .rw 155 1 (i.2.sh.map (shC true))), (5, .rw 90 2 (i.2.wr.map (wrC true)))]) 6 (fun i => l.length - i.1) (fun i => i.1 ≤ l.length ∧ opsL d (l.take i.1) = some i.2 ∧ i.2.ok) (0, d) ⟨Nat.zero_le _, rfl, hok⟩ [(2, 9), (3, 57), (4, 49), (5, 50)] (by rfl) (vc trivial) (vc trivial) (fun i hi N hN => ?_)
  obtain ⟨i, e⟩ := i
  obtain ⟨hi, hL, heo⟩ := hi
  simp only at hi hL heo hN
  refine vc (brB_intro (fun h => ?_) (fun h => ?_))
  · have h : i < l.length := by simpa using h
    have hx := List.getElem?_eq_getElem h
    have hfx := hs _ (List.getElem_mem h)
    generalize hW : l[i] = wi at hx hfx ⊢
    obtain ⟨ws, wa, wb⟩ := wi
    rw [get_map hx, opC]
    refine vc ?_
    refine brB_intro (fun hs1 => ?_) (fun hs1 => ?_)
    · have hst : opStep e (ws, wa, wb) = some e.sync := if_pos hs1
      refine callq_of true [] (implDiskSync_ok e heo.fits) rfl trivial (by unfold Dk.rd; exact vc trivial) ?_
      rintro r out ⟨rfl, rfl⟩
      refine ⟨by simp, by simp [Dk.obs], fun _ => ⟨rs_ow _ (by simp [Dk.obs]), rso_ow _⟩, ?_⟩
      unfold Dk.ow Dk.obs
      refine vc ?_
      refine hN _ (i + 1, e.sync) [(4, 70), (5, 71)] ⟨h, (opsL_next hL hx).trans hst, opStep_ok heo hst⟩ (by show l.length - (i + 1) < l.length - i; omega) (by rfl) (vc ?_) (vc trivial)
      rw [w64 _ (by omega)]; simp
    · have hst : opStep e (ws, wa, wb) = if (e.write wa wb).2 = true then some (e.write wa wb).1 else none := if_neg (by simp [hs1])
      have hno : ¬ (Dk.wrOk e.sh.length (wa, wb) ∧ e.wr.length < 500) → d.doOps l = ⟨[], []⟩ := fun hn => by
        have hw : (e.write wa wb).2 = false := by unfold Dk.write; rw [if_neg (fun hh => hn hh.2)]
        rw [hw] at hst
        rw [hdo, opsL_fail hL hx hst]; rfl
      have hef := heo.1
      rw [w64 _ (by omega)]
      refine callq_of false [] (within_ok wa 0 (e.sh.length - 1)) rfl trivial (vc trivial) ?_
      rintro r out ⟨rfl, rfl⟩
      refine ⟨by simp, by simp, by simp, vc ?_⟩
      refine brB_intro (fun h1 => ?_) (fun h1 => ?_)
      · exact hnil _ (hno (fun hh => by have := hh.1.1; simp at h1 this; omega))
      refine brB_intro (fun h2 => ?_) (fun h2 => ?_)
      · exact hnil _ (hno (fun hh => by have := hh.1.2; simp at h2 this; omega))
      refine brB_intro (fun h3 => ?_) (fun h3 => ?_)
      · exact hnil _ (hno (fun hh => by have := hh.2; simp at h3; omega))
      have hwo : Dk.wrOk e.sh.length (wa, wb) := ⟨by simp at h1 ⊢; omega, by simp at h2 ⊢; omega⟩
      have hlt : e.wr.length < 500 := by simp at h3; omega
      have hw : e.write wa wb = (⟨e.sh, e.wr ++ [(wa, wb)]⟩, true) := if_pos ⟨heo, hwo, hlt⟩
      rw [hw] at hst
      have hst : opStep e (ws, wa, wb) = some ⟨e.sh, e.wr ++ [(wa, wb)]⟩ := hst
      refine drawQ_of false (by rfl) (by simp) (vc ?_)
      refine calld_of [] false [] (copyBytes_ok wb hfx) rfl trivial (vc trivial) (by rfl) ⟨_, _, rfl, rfl⟩ ?_
      rintro r out ⟨rfl, rfl⟩
      refine ⟨by simp, by simp, by simp, vc ?_⟩
      repeat refine ⟨rfl, ?_⟩
      refine ⟨⟨by simp, by unfold maxLen; omega, by omega⟩, ?_⟩
      repeat refine ⟨rfl, ?_⟩
      refine hN _ (i + 1, ⟨e.sh, e.wr ++ [(wa, wb)]⟩) [(5, 326)] ⟨h, (opsL_next hL hx).trans hst, opStep_ok heo hst⟩ (by show l.length - (i + 1) < l.length - i; omega) (by rfl) (vc ?_) (vc ?_)
      · rw [w64 _ (by omega)]; simp
      · simp [wrC]
  · have h : i = l.length := by simp at h; omega
    rw [h, List.take_length] at hL
    rw [show d.doOps l = e by rw [hdo, hL]; rfl]
    exact endQ_of [(1, 4), (2, 5)] (.ag [.sl 1 e.sh.length, .sl 2 e.wr.length]) [some (.rw 155 1 (e.sh.map (shC true))), some (.rw 90 2 (e.wr.map (wrC true)))] (by rfl) (vc trivial) (vc trivial) ⟨rfl, rfl⟩
end Go.Proofs.Ytnnmpdanfeejbaa.Abs

/- Sheets read, both sides: contracts. -/
namespace Go.Proofs.Ytnnmpdanfeejbaa.Abs
open Go Go.Proofs
set_option maxRecDepth 10000
set_option linter.unusedVariables false
set_option linter.unusedSimpArgs false
/-- What was written last onto a sheet. -/
def lastW (a : Int) : List (Int × List UInt8) → List UInt8 → List UInt8
  | [], b => b
  | w :: r, b => lastW a r (if w.1 = a then w.2 else b)
theorem lastW_snoc (a : Int) (w : Int × List UInt8) : ∀ (l : List (Int × List UInt8)) (b : List UInt8), lastW a (l ++ [w]) b = if w.1 = a then w.2 else lastW a l b
  | [], b => rfl
  | x :: l, b => by rw [List.cons_append, lastW, lastW_snoc a w l, lastW]
def rdD (d : Dk) (a : Nat) : List UInt8 := sheet (lastW a d.wr (d.sh[a]?.getD []))
theorem lastW_mem (a : Int) : ∀ (l : List (Int × List UInt8)) (b : List UInt8), lastW a l b = b ∨ ∃ w ∈ l, lastW a l b = w.2
  | [], b => .inl rfl
  | w :: r, b => by
    rw [lastW]
    rcases lastW_mem a r (if w.1 = a then w.2 else b) with e | ⟨v, hv, e⟩
    · rw [e]
      split
      · exact .inr ⟨w, List.mem_cons_self .., rfl⟩
      · exact .inl rfl
    · exact .inr ⟨v, List.mem_cons_of_mem _ hv, e⟩
theorem rdD_len {d : Dk} (h : d.ok) {a : Nat} (ha : a < d.sh.length) : (rdD d a).length = 512 := by
  have hx := List.getElem?_eq_getElem ha
  have h1 := h.2.1 _ (List.getElem_mem ha)
  unfold rdD sheet
  rw [hx, Option.getD_some]
  split
  · simp
  · rename_i hne
    rcases lastW_mem a d.wr d.sh[a] with e | ⟨w, hw, e⟩
    · rw [e] at hne ⊢
      rcases h1 with h1 | h1
      · exact absurd (List.length_eq_zero_iff.1 h1) hne
      · exact h1
    · rw [e]; exact (h.2.2 w hw).2
theorem diskRead_ok (d : Dk) (hd : d.fits (2^40)) (a : Nat) (ha : a < d.sh.length) : CallOk Try.prog 116 [] [.c (.ptr [.row false (d.sh.map (shC false)), .row false (d.wr.map (wrC false))] 0), In a] (fun r out => r = .sl 1 (rdD d a).length ∧ out = [some (.rw 5 1 (eB (rdD d a)))]) := by
  obtain ⟨hf1, hf2, hf3, hf4⟩ := hd
  obtain ⟨sh, wr⟩ := d
  simp only at hf1 hf2 hf3 hf4 ha ⊢
  refine callOk_z (np := 0) {} mixed Try.func116 (by rfl) Try.ntmps116 Try.results116 (by rfl) (Nat.le_of_ble_eq_true rfl) rfl rfl rfl (vc ?_)
  have hx := List.getElem?_eq_getElem ha
  have hxl := hf2 _ (List.getElem_mem ha)
  have hr : rdD ⟨sh, wr⟩ a = sheet (lastW a wr sh[a]) := by unfold rdD; simp only [hx, Option.getD_some]
  rw [hr]
  rw [get_map hx, shC]
  refine vc ?_
  refine loopQ_of (ι := Nat × List UInt8) (fun i => [(1, In a), (5, Rw (eB i.2)), (19, Rw (wr.map (wrC false))), (20, In wr.length), (21, In (i.1 : Nat))]) (fun i => []) 1 (fun i => wr.length - i.1) (fun i => i.1 ≤ wr.length ∧ i.2.length ≤ 2^40 ∧ lastW a (wr.drop i.1) i.2 = lastW a wr sh[a]) (0, sh[a]) ⟨Nat.zero_le _, hxl, rfl⟩ [] (by rfl) (vc ?_) (vc ?_) (fun i hi N hN => ?_)
  · trivial
  · trivial
  obtain ⟨i, cur⟩ := i
  obtain ⟨hi, hcl, hL⟩ := hi
  simp only at hi hcl hL hN
  refine vc (brB_intro (fun h => ?_) (fun h => ?_))
  · have h : i < wr.length := by simpa using h
    have hw := List.getElem?_eq_getElem h
    have hwl := hf4 _ (List.getElem_mem h)
    rw [List.drop_eq_getElem_cons h, lastW] at hL
    rw [get_map hw, wrC]
    refine vc ?_
    refine brB_intro (fun h1 => ?_) (fun h1 => ?_)
    · have h1 : wr[i].1 = a := by simpa using h1
      rw [if_pos h1] at hL
      refine hN _ (i + 1, wr[i].2) [] ⟨h, hwl, hL⟩ (by show wr.length - (i + 1) < wr.length - i; omega) (by rfl) (vc ?_) (vc trivial)
      rw [w64 _ (by omega)]; simp
    · have h1 : ¬ wr[i].1 = a := by simpa using h1
      rw [if_neg h1] at hL
      refine hN _ (i + 1, cur) [] ⟨h, hcl, hL⟩ (by show wr.length - (i + 1) < wr.length - i; omega) (by rfl) (vc ?_) (vc trivial)
      rw [w64 _ (by omega)]; simp
  · have h : i = wr.length := by simp at h; omega
    subst h
    rw [List.drop_length, lastW] at hL
    rw [← hL]
    refine brB_intro (fun h1 => ?_) (fun h1 => ?_)
    · have h1 : cur = [] := List.length_eq_zero_iff.1 (by simp at h1; simp [h1])
      subst h1
      obtain ⟨Z, hZ, hZl, hZe⟩ : ∃ Z : List UInt8, sheet [] = Z ∧ Z.length = 512 ∧ List.replicate 512 [CV.v (.int .u8 0)] = eB Z := ⟨List.replicate 512 0, by unfold sheet; rw [if_pos rfl], by simp, eB_zeros 512⟩
      rw [hZ, hZe]
      refine endQ_of [(1, 33)] (.sl 1 Z.length) [some (.rw 5 1 (eB Z))] (by rfl) (vc ?_) (vc trivial) ⟨rfl, rfl⟩
      exact hZl.symm
    · have h1 : cur ≠ [] := fun e => by rw [e] at h1; simp at h1
      refine callq_of false [] (copyBytes_ok cur hcl) rfl trivial (vc trivial) ?_
      rintro r out ⟨rfl, rfl⟩
      refine vc4 (by simp) (by simp) (by simp) ?_
      rw [show sheet cur = cur by unfold sheet; rw [if_neg h1]]
      exact endQ_of [(1, 41)] (.sl 1 cur.length) [some (.rw 5 1 (eB cur))] (by rfl) (vc trivial) (vc trivial) ⟨rfl, rfl⟩
noncomputable def dkO (d : Dk) (a : Int) : Option (List UInt8) := open Classical in if d.ok ∧ 0 ≤ a ∧ a < d.sh.length then some (rdD d a.toNat) else none
end Go.Proofs.Ytnnmpdanfeejbaa.Abs

/- The last meta of a disk, both sides: contracts. -/
namespace Go.Proofs.Ytnnmpdanfeejbaa.Abs
open Go Go.Proofs
set_option maxRecDepth 10000
set_option linter.unusedVariables false
set_option linter.unusedSimpArgs false
def mtStep (b : Nat × Nat) (a : Nat) : Option (Nat × Nat) → Nat × Nat
  | some m => if m.1 % 2 = a ∧ b.1 < m.1 then m else b
  | none => b
noncomputable def mtSt (d : Dk) : Nat → Nat × Nat
  | 0 => (0, 0)
  | i + 1 => mtStep (mtSt d i) i (mtOf (rdD d i))
noncomputable def mtD (d : Dk) : Nat × Nat := open Classical in if d.ok then mtSt d 2 else (0, 0)
theorem mtOf_le {b : List UInt8} {m : Nat × Nat} (h : mtOf b = some m) : (1 ≤ m.1 ∧ m.1 ≤ 1099511627775) ∧ m.2 ≤ 399 := by
  unfold mtOf at h
  split at h
  · rename_i hk
    cases h
    have h1 := hk.1.1
    have h2 := hk.1.2
    simp only
    omega
  · cases h
theorem mtSt_le (d : Dk) : ∀ i, (mtSt d i).1 ≤ 1099511627775 ∧ (mtSt d i).2 ≤ 399
  | 0 => by simp [mtSt]
  | i + 1 => by
    have ih := mtSt_le d i
    rw [mtSt]
    cases h : mtOf (rdD d i) with
    | none => exact ih
    | some m =>
      have := mtOf_le h
      rw [mtStep]
      split
      · omega
      · exact ih
theorem mt_rs (o : Option (Nat × Nat)) : true = true → Rs true 0 (mtR o) ∧ ∀ ob, some ob ∈ ([] : List (Option Ob)) → RsOb true 0 ob := fun _ => ⟨.tu _ (by simp; exact ⟨.ag _ (by simp; exact ⟨.v _, .v _⟩), .v _⟩), by simp⟩
def mtE (m : Nat × Nat) : AV := .tu [.ag [In m.1, In m.2], Bo (decide ((0 : Int) < m.1))]
theorem mtE_end (m : Nat × Nat) (H : Hp) : EndQ 0 H (mtE m) (fun x out => x = mtE m ∧ out = []) := EndQ.closed (.tu _ (by simp; exact ⟨.ag _ (by simp; exact ⟨.v _, .v _⟩), .v _⟩)) ⟨rfl, rfl⟩
theorem view_two {bor : Bool} {H : Hp} {ps : List Nat} (a b : CV) : ∀ (i : Nat) (c : AV) (c' : CV), [AV.c a, AV.c b][i]? = some c → [a, b][i]? = some c' → View bor H ps c (.c c') := by
  intro i c c' h h'
  match i with
  | 0 => simp at h h'; subst h h'; exact .same _
  | 1 => simp at h h'; subst h h'; exact .same _
  | n + 2 => simp at h
end Go.Proofs.Ytnnmpdanfeejbaa.Abs

/- The draws: pages. Weak contracts. -/
namespace Go.Proofs.Ytnnmpdanfeejbaa.Abs
open Go Go.Proofs
set_option maxRecDepth 10000
set_option linter.unusedVariables false
set_option linter.unusedSimpArgs false
theorem specAll_pairs (t : List Nd) : pairsOk (specAll t) := by
  have h0 : pairsOk [] := ⟨by simp, by simp, by simp⟩
  unfold specAll
  by_cases h : specOk t
  · rw [if_pos (tf_true h)]
    rcases h with rfl | ⟨h1, h2, h3, h4, h5, h6⟩
    · have : (rootT []).1.pairs = [] := by
        show (Sub.mk true [] []).pairs = []
        simp [Sub.pairs, Sub.pairsL]
      rw [this]; exact h0
    · exact h5
  · rw [tf_false h]; exact h0
theorem keysOk_take {A : List Pr} (h : pairsOk A) (n : Nat) : keysOk ((A.take n).map (·.k)) ∧ ∀ v ∈ (A.take n).map (·.v), valOk v := by
  obtain ⟨h1, h2, h3⟩ := h
  refine ⟨⟨fun k hk => ?_, fun i p q hp hq => ?_⟩, fun v hv => ?_⟩
  · obtain ⟨x, hx, rfl⟩ := List.mem_map.1 hk
    exact (h2 x (List.mem_of_mem_take hx)).1
  · rw [List.getElem?_map, Option.map_eq_some_iff] at hp hq
    obtain ⟨x, hx, rfl⟩ := hp
    obtain ⟨y, hy, rfl⟩ := hq
    rw [List.getElem?_take] at hx hy
    split at hx
    · split at hy
      · exact h3 i x y hx hy
      · cases hy
    · cases hx
  · obtain ⟨x, hx, rfl⟩ := List.mem_map.1 hv
    exact (h2 x (List.mem_of_mem_take hx)).2
theorem keysOk_tail {l : List ByteArray} (h : keysOk l) : keysOk (l.drop 1) := by
  refine ⟨fun k hk => h.1 k (List.mem_of_mem_drop hk), fun i p q hp hq => ?_⟩
  rw [List.getElem?_drop] at hp hq
  exact h.2 (1 + i) p q hp (by rw [← hq]; congr 1)
def PageR (b : List UInt8) (r : AV) (out : List (Option Ob)) : Prop := (∃ p : Pg, pageOk p ∧ r = p.rd) ∧ CurP b out
theorem l04Page_ok (b : List UInt8) (hb : b.length ≤ 2^40) (i : Nat) (h : Int) (hi : i ≤ b.length) : CallOk Try.prog 135 [curO b i h] [.pt 1 0 0] (PageR b) := by
  unfold curO
  refine callOk_z (np := 1) { js := [14], fz := [(12, [5, 119]), (19, [4, 5, 6])] } mixed Try.func135 (by rfl) Try.ntmps135 Try.results135 (by rfl) (Nat.le_of_ble_eq_true rfl) rfl rfl rfl (vc ?_)
  have hc := l03Draw_ok b hb i h hi 6 (by omega)
  unfold curO at hc
  refine callq_of false [1] hc rfl (vc trivial) (by refine vc ?_; rfl) ?_
  rintro r out ⟨L, rfl, ⟨i, h, hi, rfl⟩, hL⟩
  refine vc4 (by simp) (by simp) (by simp) ?_
  have hc := specAll_ok hL
  have hA := specAll_pairs L
  generalize specAll L = A at hc hA
  unfold treeAg at hc
  refine callq_of true [] hc rfl (vc trivial) (vc trivial) ?_
  rintro r out ⟨rfl, rfl⟩
  refine ⟨by simp, by simp, fun _ => ⟨.sl 1 _ (by omega) (by simp), by intro ob h; simp at h; subst h; exact .inr (own_pr _)⟩, vc ?_⟩
  have hAl : A.length ≤ 200 := hA.1
  refine loopQ_of (fun j => [(0, .pt 1 0 0), (2, .pt 2 0 0), (3, .pt 3 0 0), (10, .sl 4 A.length), (11, In A.length), (12, In (j : Nat))]) (fun j => [(1, .box 179 [Rw (eB b), In i, In h]), (2, .box 44 [.nul, .nul, .nul]), (3, .box 44 [.sl 5 (min j 4), .sl 6 (min j 4), .nul]), (4, .rw 133 2 (A.map prC)), (5, .rw 9 1 (((A.take (min j 4)).map (·.k)).map stC)), (6, .rw 9 1 (((A.take (min j 4)).map (·.v)).map stC))]) 7 (fun j => A.length - j) (fun j => j ≤ A.length) 0 (Nat.zero_le _) [(3, 18), (4, 50), (5, 0), (6, 0)] (by rfl) (vc trivial) (vc ?_) (fun j hj N hN => ?_)
  · simp
  refine vc (brB_intro (fun h1 => ?_) (fun h1 => ?_))
  · have h1 : j < A.length := by simpa using h1
    have hx := List.getElem?_eq_getElem h1
    have hw : IntKind.i64.wrap (((j : Nat) : Int) + 1) = ((j + 1 : Nat) : Int) := by rw [w64 _ (by omega)]; simp
    refine ⟨h1, ?_⟩
    rw [get_map hx, prC]
    refine vc (brB_intro (fun h2 => ?_) (fun h2 => ?_))
    · have h2 : min j 4 < 4 := by simp at h2; omega
      have e4 : min j 4 = j := by omega
      have e5 : min (j + 1) 4 = j + 1 := by omega
      have el : (A.take (min j 4)).length = min j 4 := by rw [List.length_take]; omega
      have et : A.take (j + 1) = A.take j ++ [A[j]] := by rw [List.take_add_one, hx]; rfl
      refine ⟨⟨el.symm, by unfold maxLen; omega, by omega⟩, ⟨el.symm, by unfold maxLen; omega, by omega⟩, ?_⟩
      refine hN _ (j + 1) [(5, 119), (6, 183)] h1 (by omega) (by rfl) (vc ?_) (vc ?_)
      · rw [hw]
      · rw [e4, e5, et]
        simp only [List.map_append, List.map_cons, List.map_nil, List.length_take, stC]
        exact ⟨by omega, trivial, trivial⟩
    · have h2 : ¬ min j 4 < 4 := by simp at h2; omega
      refine hN _ (j + 1) [] h1 (by omega) (by rfl) (vc ?_) (vc ?_)
      · rw [hw]
      · rw [show min (j + 1) 4 = min j 4 by omega]
        exact ⟨rfl, rfl, rfl⟩
  · have hfin : ∀ (p : Pg) (i : Nat) (h : Int), pageOk p → i ≤ b.length → PageR b p.rd [some (.box 179 [Rw (eB b), In i, In h])] := fun p i h hp hi => ⟨⟨p, hp, rfl⟩, i, h, hi, rfl⟩
    have hK := keysOk_take hA (min j 4)
    have hc := l01Below_ok b hb i h hi 2 (by omega)
    unfold curO at hc
    refine callq_of false [1] hc rfl (vc trivial) (vc trivial) ?_
    rintro r out ⟨⟨x, rfl, hx0, hx1⟩, i, h, hi, rfl⟩
    unfold curO
    refine vc4 (by simp) (by simp) (by simp) ?_
    have el : (A.take (min j 4)).length = min j 4 := by rw [List.length_take]; omega
    refine brB_intro (fun h5 => ?_) (fun h5 => ?_)
    · refine brB_intro (fun h6 => ?_) (fun h6 => ?_)
      · skip
        refine joinQ_of (ι := Nat × Int × List ByteArray) (fun k => [(0, .pt 1 0 0), (2, .pt 2 0 0), (3, .pt 3 0 0)]) (fun k => [(1, .box 179 [Rw (eB b), In k.1, In k.2.1]), (2, .box 44 [.nul, .nul, .nul]), (3, .box 44 [Rw (k.2.2.map stC), .any, .nul])]) 4 (fun k => k.1 ≤ b.length ∧ keysOk k.2.2 ∧ 1 ≤ k.2.2.length ∧ k.2.2.length ≤ 3) (fun M hM => vc ?_) (fun k hk => ?_)
        · refine brB_intro (fun h7 => by simp at h7) (fun h7 => ?_)
          refine hM _ (i, h, [⟨#[99]⟩]) [] ⟨hi, ⟨by intro k hk; rw [List.mem_singleton] at hk; subst hk; exact ⟨by decide, by decide⟩, by intro m p q hp hq; cases m <;> simp at hp hq⟩, by simp, by simp⟩ (by rfl) (vc trivial) (vc ?_)
          exact .inl rfl
        · obtain ⟨i, h, K⟩ := k
          obtain ⟨hi, hk1, hk2, hk3⟩ := hk
          simp only at hi hk1 hk2 hk3
          refine vc ?_
          refine loopQ_of (ι := Nat × Int × List Int) (fun k => [(0, .pt 1 0 0), (2, .pt 2 0 0), (3, .pt 3 0 0), (6, In (k.2.2.length : Nat))]) (fun k => [(1, .box 179 [Rw (eB b), In (k.1 : Nat), In k.2.1]), (2, .box 44 [.nul, .nul, .nul]), (3, .box 44 [Rw (K.map stC), .nul, .sl 4 k.2.2.length]), (4, .rw 3 1 (k.2.2.map inC))]) 5 (fun k => K.length + 1 - k.2.2.length) (fun k => k.1 ≤ b.length ∧ k.2.2.length ≤ K.length + 1 ∧ ∀ c ∈ k.2.2, 2 ≤ c ∧ c ≤ 399) (i, h, []) ⟨hi, Nat.zero_le _, by simp⟩ [(4, 0)] (by rfl) (vc trivial) (vc trivial) (fun k hk N hN => ?_)
          obtain ⟨i, h, cs⟩ := k
          obtain ⟨hi, hc1, hc2⟩ := hk
          simp only at hi hc1 hc2 hN
          refine vc (brB_intro (fun h8 => ?_) (fun h8 => ?_))
          · have h8 : cs.length ≤ K.length := by simp at h8; omega
            have hw : IntKind.i64.wrap (((cs.length : Nat) : Int) + 1) = ((cs.length + 1 : Nat) : Int) := by rw [w64 _ (by omega)]; simp
            refine drawQ_of true (by rfl) (by intro _; refine ⟨?_, ?_⟩; (repeat first | exact fun _ => rfl | exact fun _ => nbk_A _ | refine nb_upd rfl ?_); (repeat first | exact fun _ => rfl | exact fun _ => nbo_kill _ | exact nbo_HpS0 | refine nbo_upd rfl ?_)) (vc ?_)
            have hc := l01Below_ok b hb i h hi 398 (by omega)
            unfold curO at hc
            refine calld_of [1] false [1] hc rfl (vc trivial) (vc trivial) (by rfl) (NumP.inh b _) ?_
            rintro r out ⟨⟨x, rfl, hx0, hx1⟩, i, h, hi, rfl⟩
            unfold curO
            refine vc4 (by simp) (by simp) (by simp) ?_
            refine ⟨⟨by unfold maxLen; omega, by omega⟩, ?_⟩
            repeat refine ⟨rfl, ?_⟩
            refine hN _ (i, h, cs ++ [2 + x]) [(4, 93)] ⟨hi, by simp; omega, ?_⟩ (by simp; omega) (by rfl) (vc ?_) (vc ?_)
            · intro c hc'
              rcases List.mem_append.1 hc' with hc' | hc'
              · exact hc2 c hc'
              · rw [List.mem_singleton] at hc'; subst hc'; omega
            · rw [hw]; simp
            · rw [w64 (2 + x) (by omega), List.map_append]; exact ⟨by simp, rfl⟩
          · have h8 : cs.length = K.length + 1 := by simp at h8; omega
            refine endQ_of [] (.ag [Rw (K.map stC), Rw [], Rw (cs.map inC)]) [some (.box 179 [Rw (eB b), In i, In h])] (by rfl) (vc ?_) (vc trivial) (hfin ⟨K, [], cs⟩ i h ⟨hk1, by simp, hc2, .inr ⟨by show 2 ≤ cs.length; omega, by show cs.length ≤ 4; omega, by show K.length + 1 = cs.length; omega, rfl⟩⟩ hi)
            exact ⟨false, rfl⟩

      · have h6 : ¬ min j 4 = 0 := by simp at h6; omega
        refine joinQ_of (ι := Nat × Int × List ByteArray) (fun k => [(0, .pt 1 0 0), (2, .pt 2 0 0), (3, .pt 3 0 0)]) (fun k => [(1, .box 179 [Rw (eB b), In k.1, In k.2.1]), (2, .box 44 [.nul, .nul, .nul]), (3, .box 44 [Rw (k.2.2.map stC), .any, .nul])]) 4 (fun k => k.1 ≤ b.length ∧ keysOk k.2.2 ∧ 1 ≤ k.2.2.length ∧ k.2.2.length ≤ 3) (fun M hM => vc ?_) (fun k hk => ?_)
        · rw [if_pos el.symm]
          refine vc ?_
          refine brB_intro (fun h7 => ?_) (fun h7 => ?_)
          · have h7 : min j 4 = 4 := by simp at h7; omega
            rw [if_pos el.symm]
            refine vc ?_
            rw [if_pos (by omega), Option.bind_some]
            refine hM _ (i, h, ((A.take (min j 4)).map (·.k)).drop 1) [] ⟨hi, keysOk_tail hK.1, by simp; omega, by simp; omega⟩ (by rfl) (vc trivial) (vc ?_)
            refine .inl ?_
            rw [List.take_of_length_le (by simp), ← List.map_drop]
          · have h7 : ¬ min j 4 = 4 := by simp at h7; omega
            refine hM _ (i, h, (A.take (min j 4)).map (·.k)) [] ⟨hi, hK.1, by simp; omega, by simp; omega⟩ (by rfl) (vc trivial) (vc ?_)
            rw [if_pos el.symm]
            exact .inl rfl
        · obtain ⟨i, h, K⟩ := k
          obtain ⟨hi, hk1, hk2, hk3⟩ := hk
          simp only at hi hk1 hk2 hk3
          refine vc ?_
          refine loopQ_of (ι := Nat × Int × List Int) (fun k => [(0, .pt 1 0 0), (2, .pt 2 0 0), (3, .pt 3 0 0), (6, In (k.2.2.length : Nat))]) (fun k => [(1, .box 179 [Rw (eB b), In (k.1 : Nat), In k.2.1]), (2, .box 44 [.nul, .nul, .nul]), (3, .box 44 [Rw (K.map stC), .nul, .sl 4 k.2.2.length]), (4, .rw 3 1 (k.2.2.map inC))]) 5 (fun k => K.length + 1 - k.2.2.length) (fun k => k.1 ≤ b.length ∧ k.2.2.length ≤ K.length + 1 ∧ ∀ c ∈ k.2.2, 2 ≤ c ∧ c ≤ 399) (i, h, []) ⟨hi, Nat.zero_le _, by simp⟩ [(4, 0)] (by rfl) (vc trivial) (vc trivial) (fun k hk N hN => ?_)
          obtain ⟨i, h, cs⟩ := k
          obtain ⟨hi, hc1, hc2⟩ := hk
          simp only at hi hc1 hc2 hN
          refine vc (brB_intro (fun h8 => ?_) (fun h8 => ?_))
          · have h8 : cs.length ≤ K.length := by simp at h8; omega
            have hw : IntKind.i64.wrap (((cs.length : Nat) : Int) + 1) = ((cs.length + 1 : Nat) : Int) := by rw [w64 _ (by omega)]; simp
            refine drawQ_of true (by rfl) (by intro _; refine ⟨?_, ?_⟩; (repeat first | exact fun _ => rfl | exact fun _ => nbk_A _ | refine nb_upd rfl ?_); (repeat first | exact fun _ => rfl | exact fun _ => nbo_kill _ | exact nbo_HpS0 | refine nbo_upd rfl ?_)) (vc ?_)
            have hc := l01Below_ok b hb i h hi 398 (by omega)
            unfold curO at hc
            refine calld_of [1] false [1] hc rfl (vc trivial) (vc trivial) (by rfl) (NumP.inh b _) ?_
            rintro r out ⟨⟨x, rfl, hx0, hx1⟩, i, h, hi, rfl⟩
            unfold curO
            refine vc4 (by simp) (by simp) (by simp) ?_
            refine ⟨⟨by unfold maxLen; omega, by omega⟩, ?_⟩
            repeat refine ⟨rfl, ?_⟩
            refine hN _ (i, h, cs ++ [2 + x]) [(4, 93)] ⟨hi, by simp; omega, ?_⟩ (by simp; omega) (by rfl) (vc ?_) (vc ?_)
            · intro c hc'
              rcases List.mem_append.1 hc' with hc' | hc'
              · exact hc2 c hc'
              · rw [List.mem_singleton] at hc'; subst hc'; omega
            · rw [hw]; simp
            · rw [w64 (2 + x) (by omega), List.map_append]; exact ⟨by simp, rfl⟩
          · have h8 : cs.length = K.length + 1 := by simp at h8; omega
            refine endQ_of [] (.ag [Rw (K.map stC), Rw [], Rw (cs.map inC)]) [some (.box 179 [Rw (eB b), In i, In h])] (by rfl) (vc ?_) (vc trivial) (hfin ⟨K, [], cs⟩ i h ⟨hk1, by simp, hc2, .inr ⟨by show 2 ≤ cs.length; omega, by show cs.length ≤ 4; omega, by show K.length + 1 = cs.length; omega, rfl⟩⟩ hi)
            exact ⟨false, rfl⟩

    · refine brB_intro (fun h6 => ?_) (fun h6 => ?_)
      · have h6 : min j 4 = 0 := by simp at h6; omega
        refine brB_intro (fun h9 => ?_) (fun h9 => by simp at h9; omega)
        refine joinQ_of (ι := Nat × Int × List ByteArray) (fun k => [(0, .pt 1 0 0), (2, .pt 2 0 0), (3, .pt 3 0 0)]) (fun k => [(1, .box 179 [Rw (eB b), In k.1, In k.2.1]), (2, .box 44 [.nul, .nul, .nul]), (3, .box 44 [Rw (k.2.2.map stC), .any, .nul])]) 4 (fun k => k.1 ≤ b.length ∧ keysOk k.2.2 ∧ 1 ≤ k.2.2.length ∧ k.2.2.length ≤ 3) (fun M hM => vc ?_) (fun k hk => ?_)
        · refine brB_intro (fun h7 => by simp at h7) (fun h7 => ?_)
          refine hM _ (i, h, [⟨#[99]⟩]) [] ⟨hi, ⟨by intro k hk; rw [List.mem_singleton] at hk; subst hk; exact ⟨by decide, by decide⟩, by intro m p q hp hq; cases m <;> simp at hp hq⟩, by simp, by simp⟩ (by rfl) (vc trivial) (vc ?_)
          exact .inl rfl
        · obtain ⟨i, h, K⟩ := k
          obtain ⟨hi, hk1, hk2, hk3⟩ := hk
          simp only at hi hk1 hk2 hk3
          refine vc ?_
          refine loopQ_of (ι := Nat × Int × List Int) (fun k => [(0, .pt 1 0 0), (2, .pt 2 0 0), (3, .pt 3 0 0), (6, In (k.2.2.length : Nat))]) (fun k => [(1, .box 179 [Rw (eB b), In (k.1 : Nat), In k.2.1]), (2, .box 44 [.nul, .nul, .nul]), (3, .box 44 [Rw (K.map stC), .nul, .sl 4 k.2.2.length]), (4, .rw 3 1 (k.2.2.map inC))]) 5 (fun k => K.length + 1 - k.2.2.length) (fun k => k.1 ≤ b.length ∧ k.2.2.length ≤ K.length + 1 ∧ ∀ c ∈ k.2.2, 2 ≤ c ∧ c ≤ 399) (i, h, []) ⟨hi, Nat.zero_le _, by simp⟩ [(4, 0)] (by rfl) (vc trivial) (vc trivial) (fun k hk N hN => ?_)
          obtain ⟨i, h, cs⟩ := k
          obtain ⟨hi, hc1, hc2⟩ := hk
          simp only at hi hc1 hc2 hN
          refine vc (brB_intro (fun h8 => ?_) (fun h8 => ?_))
          · have h8 : cs.length ≤ K.length := by simp at h8; omega
            have hw : IntKind.i64.wrap (((cs.length : Nat) : Int) + 1) = ((cs.length + 1 : Nat) : Int) := by rw [w64 _ (by omega)]; simp
            refine drawQ_of true (by rfl) (by intro _; refine ⟨?_, ?_⟩; (repeat first | exact fun _ => rfl | exact fun _ => nbk_A _ | refine nb_upd rfl ?_); (repeat first | exact fun _ => rfl | exact fun _ => nbo_kill _ | exact nbo_HpS0 | refine nbo_upd rfl ?_)) (vc ?_)
            have hc := l01Below_ok b hb i h hi 398 (by omega)
            unfold curO at hc
            refine calld_of [1] false [1] hc rfl (vc trivial) (vc trivial) (by rfl) (NumP.inh b _) ?_
            rintro r out ⟨⟨x, rfl, hx0, hx1⟩, i, h, hi, rfl⟩
            unfold curO
            refine vc4 (by simp) (by simp) (by simp) ?_
            refine ⟨⟨by unfold maxLen; omega, by omega⟩, ?_⟩
            repeat refine ⟨rfl, ?_⟩
            refine hN _ (i, h, cs ++ [2 + x]) [(4, 93)] ⟨hi, by simp; omega, ?_⟩ (by simp; omega) (by rfl) (vc ?_) (vc ?_)
            · intro c hc'
              rcases List.mem_append.1 hc' with hc' | hc'
              · exact hc2 c hc'
              · rw [List.mem_singleton] at hc'; subst hc'; omega
            · rw [hw]; simp
            · rw [w64 (2 + x) (by omega), List.map_append]; exact ⟨by simp, rfl⟩
          · have h8 : cs.length = K.length + 1 := by simp at h8; omega
            refine endQ_of [] (.ag [Rw (K.map stC), Rw [], Rw (cs.map inC)]) [some (.box 179 [Rw (eB b), In i, In h])] (by rfl) (vc ?_) (vc trivial) (hfin ⟨K, [], cs⟩ i h ⟨hk1, by simp, hc2, .inr ⟨by show 2 ≤ cs.length; omega, by show cs.length ≤ 4; omega, by show K.length + 1 = cs.length; omega, rfl⟩⟩ hi)
            exact ⟨false, rfl⟩

      · have h6 : ¬ min j 4 = 0 := by simp at h6; omega
        rw [if_pos el.symm]
        refine vc ?_
        have ev : (List.take (min j 4) A).length = min j 4 := el
        rw [if_pos ev.symm]
        refine vc ?_
        refine endQ_of [] (.ag [Rw (((A.take (min j 4)).map (fun x : Pr => x.k)).map stC), Rw (((A.take (min j 4)).map (fun x : Pr => x.v)).map stC), Rw []]) [some (.box 179 [Rw (eB b), In i, In h])] (by rfl) (vc ?_) (vc trivial) (hfin ⟨(A.take (min j 4)).map (fun x : Pr => x.k), (A.take (min j 4)).map (fun x : Pr => x.v), []⟩ i h ⟨hK.1, hK.2, (by simp), .inl ⟨rfl, by show 1 ≤ (List.map _ _).length; simp; omega, by show (List.map _ _).length ≤ 4; simp; omega, by show (List.map _ _).length = (List.map _ _).length; simp⟩⟩ hi)
        exact ⟨false, rfl⟩
end Go.Proofs.Ytnnmpdanfeejbaa.Abs

/- The draws: metas and sheets. Weak contracts. -/
namespace Go.Proofs.Ytnnmpdanfeejbaa.Abs
open Go Go.Proofs
set_option maxRecDepth 10000
set_option linter.unusedVariables false
set_option linter.unusedSimpArgs false
def MetaR (b : List UInt8) (r : AV) (out : List (Option Ob)) : Prop := (∃ g m : Int, metaOk g m ∧ r = .ag [In g, In m]) ∧ CurP b out
theorem l04Meta_ok (b : List UInt8) (hb : b.length ≤ 2^40) (i : Nat) (h : Int) (hi : i ≤ b.length) : CallOk Try.prog 170 [curO b i h] [.pt 1 0 0] (MetaR b) := by
  unfold curO
  refine callOk_z (np := 1) {} mixed Try.func170 (by rfl) Try.ntmps170 Try.results170 (by rfl) (Nat.le_of_ble_eq_true rfl) rfl rfl rfl (vc ?_)
  have hc := l01Below_ok b hb i h hi 600 (by omega)
  unfold curO at hc
  refine callq_of false [1] hc rfl (vc trivial) (vc trivial) ?_
  rintro r out ⟨⟨x, rfl, hx0, hx1⟩, i, h, hi, rfl⟩
  unfold curO
  refine vc4 (by simp) (by simp) (by simp) ?_
  have hc := l01Below_ok b hb i h hi 300 (by omega)
  unfold curO at hc
  refine callq_of false [1] hc rfl (vc trivial) (vc trivial) ?_
  rintro r out ⟨⟨y, rfl, hy0, hy1⟩, i, h, hi, rfl⟩
  unfold curO
  refine vc4 (by simp) (by simp) (by simp) ?_
  have hc := l01Below_ok b hb i h hi 6 (by omega)
  unfold curO at hc
  refine callq_of false [1] hc rfl (vc trivial) (vc trivial) ?_
  rintro r out ⟨⟨z, rfl, hz0, hz1⟩, i, h, hi, rfl⟩
  unfold curO
  refine vc4 (by simp) (by simp) (by simp) ?_
  have hw1 : IntKind.i64.wrap (1 + x) = 1 + x := w64 _ (by omega)
  have hw2 : IntKind.i64.wrap (2 + y) = 2 + y := w64 _ (by omega)
  have hfin : ∀ (g m : Int) (i : Nat) (h : Int), metaOk g m → i ≤ b.length → MetaR b (.ag [In g, In m]) [some (.box 179 [Rw (eB b), In i, In h])] := fun g m i h hp hi => ⟨⟨g, m, hp, rfl⟩, i, h, hi, rfl⟩
  refine brB_intro (fun h1 => ?_) (fun h1 => ?_)
  · have h1 : z = 0 := by simpa using h1
    subst h1
    refine brB_intro (fun h2 => by simp at h2) (fun h2 => ?_)
    rw [hw1]
    exact endQ_of [] (.ag [In (1 + x), In 0]) [some (.box 179 [Rw (eB b), In i, In h])] (by rfl) (vc trivial) (vc trivial) (hfin _ _ i h ⟨by omega, .inl rfl⟩ hi)
  refine brB_intro (fun h2 => ?_) (fun h2 => ?_)
  · have hc := l01Below_ok b hb i h hi 2 (by omega)
    unfold curO at hc
    refine callq_of false [1] hc rfl (vc trivial) (vc trivial) ?_
    rintro r out ⟨⟨u, rfl, hu0, hu1⟩, i, h, hi, rfl⟩
    unfold curO
    refine vc4 (by simp) (by simp) (by simp) ?_
    rw [hw2, w64 (1099511627775 - u) (by omega)]
    exact endQ_of [] (.ag [In (1099511627775 - u), In (2 + y)]) [some (.box 179 [Rw (eB b), In i, In h])] (by rfl) (vc trivial) (vc trivial) (hfin _ _ i h ⟨by omega, .inr (by omega)⟩ hi)
  · rw [hw1, hw2]
    exact endQ_of [] (.ag [In (1 + x), In (2 + y)]) [some (.box 179 [Rw (eB b), In i, In h])] (by rfl) (vc trivial) (vc trivial) (hfin _ _ i h ⟨by omega, .inr (by omega)⟩ hi)
theorem pageOk_le {p : Pg} (h : pageOk p) : p.le (2^40) := by
  obtain ⟨h1, h2, h3, h4⟩ := h
  refine ⟨?_, ?_, ?_, fun k hk => ?_⟩
  · rcases h4 with h | h <;> omega
  · rcases h4 with h | h
    · omega
    · rw [h.2.2.2]; simp
  · rcases h4 with h | h
    · rw [h.1]; simp
    · omega
  · have := (h1.1 k hk).2; omega
def SheetR (b : List UInt8) (r : AV) (out : List (Option Ob)) : Prop := ∃ l : List UInt8, l.length = 512 ∧ r = .sl 2 l.length ∧ ∃ (i : Nat) (h : Int), i ≤ b.length ∧ out = [some (curO b i h), some (.rw 5 1 (eB l))]
theorem SheetR.inh (b : List UInt8) : ∃ r out, SheetR b r out := ⟨_, _, List.replicate 512 0, by simp, rfl, 0, 0, Nat.zero_le _, rfl⟩
theorem l05Bytes_ok (b : List UInt8) (hb : b.length ≤ 2^40) (i : Nat) (h : Int) (hi : i ≤ b.length) : CallOk Try.prog 160 [curO b i h] [.pt 1 0 0] (SheetR b) := by
  unfold curO
  refine callOk_z (np := 1) {} mixed Try.func160 (by rfl) Try.ntmps160 Try.results160 (by rfl) (Nat.le_of_ble_eq_true rfl) rfl rfl rfl (vc ?_)
  have hc := l04Page_ok b hb i h hi
  unfold curO at hc
  refine callq_of false [1] hc rfl (vc trivial) (vc trivial) ?_
  rintro r out ⟨⟨p, hp, rfl⟩, i, h, hi, rfl⟩
  unfold curO Pg.rd
  refine vc4 (by simp) (by simp) (by simp) ?_
  have hc := specPageBytes_ok p (pageOk_le hp)
  have hb1 : pgB p = some (sheetB p) := by unfold pgB; rw [if_pos hp]
  have hl1 := sheetB_len hp
  rw [hb1] at hc
  unfold byR byH byO Pg.rd at hc
  simp only [Option.isSome_some] at hc
  generalize sheetB p = l1 at hc hl1
  refine callq_of false [] hc rfl trivial (vc trivial) ?_
  rintro r out ⟨rfl, rfl⟩
  refine vc4 (by simp) (by simp) (by simp) ?_
  have hc := l01Below_ok b hb i h hi 2 (by omega)
  unfold curO at hc
  refine callq_of false [1] hc rfl (vc trivial) (vc trivial) ?_
  rintro r out ⟨⟨x, rfl, hx0, hx1⟩, i, h, hi, rfl⟩
  unfold curO
  refine vc4 (by simp) (by simp) (by simp) ?_
  refine brB_intro (fun h1 => ?_) (fun h1 => ?_)
  · have hc := l04Meta_ok b hb i h hi
    unfold curO at hc
    refine callq_of false [1] hc rfl (vc trivial) (vc trivial) ?_
    rintro r out ⟨⟨g, m, hm, rfl⟩, i, h, hi, rfl⟩
    unfold curO
    refine vc4 (by simp) (by simp) (by simp) ?_
    have hc := specMetaBytes_ok g m
    have hb2 : mtB g m = some (metaB g.toNat m.toNat) := by unfold mtB; rw [if_pos hm]
    have hl2 : (metaB g.toNat m.toNat).length = 512 := metaB_len _ _
    rw [hb2] at hc
    unfold byR byH byO at hc
    simp only [Option.isSome_some] at hc
    generalize metaB g.toNat m.toNat = l2 at hc hl2
    refine callq_of false [] hc rfl trivial (vc trivial) ?_
    rintro r out ⟨rfl, rfl⟩
    refine vc4 (by simp) (by simp) (by simp) ?_
    exact endQ_of [(2, 114)] (.sl 2 l2.length) [some (.box 179 [Rw (eB b), In i, In h]), some (.rw 5 1 (eB l2))] (by rfl) (vc trivial) (vc trivial) ⟨l2, hl2, rfl, i, h, hi, rfl⟩
  · exact endQ_of [(2, 26)] (.sl 2 l1.length) [some (.box 179 [Rw (eB b), In i, In h]), some (.rw 5 1 (eB l1))] (by rfl) (vc trivial) (vc trivial) ⟨l1, hl1, rfl, i, h, hi, rfl⟩
end Go.Proofs.Ytnnmpdanfeejbaa.Abs
