/- Plain laws on numbers in base 128, as they are written and read; no program is in sight. -/
import Derived.Test.YtnleeeccpepekaaLib
namespace Go.Proofs.Ytnleeeccpepekaa.Lib
open Go Go.RowKit Go.Proofs.YtnleeeccpepekaaW.PrintWords
set_option linter.unusedVariables false
set_option linter.unusedSimpArgs false

/-- A number in base 128, the lowest figure first. -/
def enc (n : Nat) : List Int := if h : n < 128 then [(n : Int)] else ((n % 128 + 128 : Nat) : Int) :: enc (n / 128)
termination_by n
decreasing_by omega
theorem enc_lt {n : Nat} (h : n < 128) : enc n = [(n : Int)] := by unfold enc; rw [dif_pos h]
theorem enc_ge {n : Nat} (h : ¬ n < 128) : enc n = ((n % 128 + 128 : Nat) : Int) :: enc (n / 128) := by rw [enc, dif_neg h]
theorem enc_byt (n : Nat) : Byt (enc n) := by
  induction n using Nat.strongRecOn with
  | _ n ih =>
    by_cases h : n < 128
    · rw [enc_lt h]; exact Byt.one (by omega)
    · rw [enc_ge h]; exact Byt.cons (by omega) (ih _ (by omega))
theorem enc_pos (n : Nat) : 0 < (enc n).length := by
  by_cases h : n < 128
  · rw [enc_lt h]; simp
  · rw [enc_ge h]; simp
theorem enc_le (j : Nat) : ∀ n, n < 128 ^ (j + 1) → (enc n).length ≤ j + 1 := by
  induction j with
  | zero => intro n h; rw [enc_lt (by simpa using h)]; simp
  | succ j ih =>
    intro n h
    by_cases c : n < 128
    · rw [enc_lt c]; simp
    · rw [enc_ge c]
      have := ih (n / 128) (by rw [Nat.div_lt_iff_lt_mul (by omega)]; rw [Nat.pow_succ] at h; exact h)
      simp; omega
theorem enc_gt (j : Nat) : ∀ n, 128 ^ j ≤ n → j + 1 ≤ (enc n).length := by
  induction j with
  | zero => intro n _; have := enc_pos n; omega
  | succ j ih =>
    intro n h
    have h1 : 1 ≤ 128 ^ j := Nat.pow_pos (by omega)
    have c : ¬ n < 128 := by rw [Nat.pow_succ] at h; omega
    rw [enc_ge c]
    have := ih (n / 128) (by rw [Nat.le_div_iff_mul_le (by omega)]; rw [Nat.pow_succ] at h; exact h)
    simp; omega
theorem enc_six {n : Nat} (h : n ≤ 1099511627775) : (enc n).length ≤ 6 := enc_le 5 n (by omega)
/-- What is read of a row of figures: the number, and how many they were; j: how many were read, n: what they say, u: the next one's weight. -/
def gv : List Int → Nat → Nat → Nat → Option (Nat × Nat)
  | [], _, _, _ => none
  | b :: r, j, n, u => if 6 ≤ j then none else if 128 ≤ b then gv r (j + 1) (n + (b % 128).toNat * u) (u * 128) else
      if 1099511627775 < n + (b % 128).toNat * u ∨ (b = 0 ∧ 0 < j) then none else some (n + (b % 128).toNat * u, j + 1)
def gvRes (a : Nat) : Option (Nat × Nat) → Int × Int
  | some (n, c) => ((n : Int), ((a + c : Nat) : Int))
  | none => (0, -1)
def getVar (b : List Int) (at_ : Int) : Int × Int := if at_ < 0 then (0, -1) else gvRes at_.toNat (gv (b.drop at_.toNat) 0 0 1)
theorem drop_rd {b : List Int} {i : Nat} (h : i < b.length) : b.drop i = rd b (i : Int) :: b.drop (i + 1) := by rw [List.drop_eq_getElem_cons h, rd_nat h]
theorem getVar_out {b : List Int} {a : Int} (h : a < 0 ∨ (b.length : Int) ≤ a) : getVar b a = (0, -1) := by
  unfold getVar
  by_cases c : a < 0
  · rw [if_pos c]
  · rw [if_neg c, List.drop_of_length_le (by omega)]; rfl
theorem pow128 {j : Nat} (h : j ≤ 6) : 1 ≤ 128 ^ j ∧ 128 ^ j ≤ 4398046511104 := ⟨Nat.pow_pos (by omega), Nat.le_trans (Nat.pow_le_pow_right (by omega) h) (by decide)⟩
/-- The figures as they are written, one ahead of the others: the highest one is none only if it is alone. -/
theorem enc_len_iff {n b j : Nat} (hn : n < 128 ^ j) (hb : b < 128) : (enc (n + b * 128 ^ j)).length = j + 1 ↔ ¬ (b = 0 ∧ 0 < j) := by
  have hp : 1 ≤ 128 ^ j := Nat.pow_pos (by omega)
  have hle := enc_le j (n + b * 128 ^ j) (by
    rw [Nat.pow_succ]
    have : b * 128 ^ j ≤ 127 * 128 ^ j := Nat.mul_le_mul_right _ (by omega)
    omega)
  rcases Nat.eq_zero_or_pos b with h0 | h0
  · subst h0
    rcases Nat.eq_zero_or_pos j with hj | hj
    · subst hj
      have := enc_pos (n + 0 * 128 ^ 0)
      constructor
      · intro _ h; omega
      · intro _; omega
    · obtain ⟨i, rfl⟩ : ∃ i, j = i + 1 := ⟨j - 1, by omega⟩
      have := enc_le i (n + 0 * 128 ^ (i + 1)) (by omega)
      constructor
      · intro h; omega
      · intro h; exact absurd ⟨rfl, hj⟩ h
  · have : 128 ^ j ≤ b * 128 ^ j := Nat.le_mul_of_pos_left _ h0
    have := enc_gt j (n + b * 128 ^ j) (by omega)
    constructor
    · intro _ h; omega
    · intro _; omega
theorem gv_enc (r : List Int) : ∀ (m j n u : Nat), (enc m).length + j ≤ 6 → n + m * u ≤ 1099511627775 → (m ≠ 0 ∨ j = 0) →
    gv (enc m ++ r) j n u = some (n + m * u, j + (enc m).length) := by
  intro m
  induction m using Nat.strongRecOn with
  | _ m ih =>
    intro j n u hl hm hz
    by_cases h : m < 128
    · rw [enc_lt h] at hl ⊢
      simp only [List.cons_append, List.nil_append, gv]
      simp at hl
      have e : ((m : Int) % 128).toNat = m := by omega
      rw [if_neg (by omega), if_neg (by omega), e, if_neg (by omega)]
      simp
    · rw [enc_ge h] at hl ⊢
      simp only [List.cons_append, gv]
      simp at hl
      have hp := enc_pos (m / 128)
      have e : ((((m % 128 + 128 : Nat) : Int)) % 128).toNat = m % 128 := by omega
      have e2 : m % 128 * u + m / 128 * (u * 128) = m * u := by
        rw [Nat.mul_comm u 128, ← Nat.mul_assoc, ← Nat.add_mul]
        congr 1
        omega
      rw [if_neg (by omega), if_pos (by omega), e, ih (m / 128) (by omega) (j + 1) _ _ (by omega) (by omega) (by omega)]
      simp
      omega
theorem gv_enc0 {m : Nat} (r : List Int) (hm : m ≤ 1099511627775) : gv (enc m ++ r) 0 0 1 = some (m, (enc m).length) := by
  have := gv_enc r m 0 0 1 (by have := enc_six hm; omega) (by omega) (.inr rfl)
  simpa using this
theorem gv_bound : ∀ (l : List Int) (j n u : Nat) (m c : Nat), gv l j n u = some (m, c) → m ≤ 1099511627775 ∧ j < c ∧ c ≤ j + l.length
  | [], _, _, _, _, _, h => by simp [gv] at h
  | b :: r, j, n, u, m, c, h => by
    unfold gv at h
    split at h
    · cases h
    · split at h
      · have := gv_bound r _ _ _ _ _ h
        simp; omega
      · split at h
        · cases h
        · simp only [Option.some.injEq, Prod.mk.injEq] at h
          obtain ⟨rfl, rfl⟩ := h
          simp; omega
theorem getVar_cases (b : List Int) (a : Int) : getVar b a = (0, -1) ∨ ∃ m e : Nat, getVar b a = ((m : Int), (e : Int)) ∧ m ≤ 1099511627775 ∧ e ≤ b.length ∧ a < (e : Int) ∧ 0 ≤ a := by
  unfold getVar
  by_cases c : a < 0
  · rw [if_pos c]; exact .inl rfl
  · rw [if_neg c]
    cases h : gv (b.drop a.toNat) 0 0 1 with
    | none => exact .inl rfl
    | some p =>
      obtain ⟨m, c2⟩ := p
      have hb := gv_bound _ _ _ _ _ _ h
      rw [List.length_drop] at hb
      refine .inr ⟨m, a.toNat + c2, rfl, hb.1, ?_, ?_, by omega⟩
      · omega
      · omega
/-- A text, behind its length. -/
def getText (b : List Int) (a : Int) : ByteArray × Int :=
  if (getVar b a).2 < 0 ∨ (b.length : Int) - (getVar b a).2 < (getVar b a).1 then (⟨#[]⟩, -1)
  else (strOfNums ((b.take ((getVar b a).2 + (getVar b a).1).toNat).drop (getVar b a).2.toNat), (getVar b a).2 + (getVar b a).1)
theorem getText_core (b : List Int) (hl : b.length ≤ 140737488351232) (a : Int) (v : Int × Int) (hv : v = getVar b a) :
    (if v.2 < 0 then (some ((⟨#[]⟩ : ByteArray), (-1 : Int))) else (if v.1 > (wrap64 ((b.length : Int) - v.2)) then (some ((⟨#[]⟩ : ByteArray), (-1))) else (if 0 ≤ v.2 then (if v.2 ≤ (wrap64 (v.2 + v.1)) then (if (wrap64 (v.2 + v.1)) ≤ (b.length : Int) then (some (strOfNums ((b.take ((wrap64 (v.2 + v.1)) : Int).toNat).drop (v.2 : Int).toNat), wrap64 (v.2 + v.1))) else (none)) else (none)) else (none))))
    = some (getText b a) := by
  unfold getText
  rw [← hv]
  rcases getVar_cases b a with h | ⟨m, e, h, hm, he, _⟩
  · rw [hv, h, if_pos (by decide), if_pos (.inl (by decide))]
  · rw [hv, h]
    simp only
    rw [if_neg (by omega), wr (n := (b.length : Int) - (e : Int)) (by omega) (by omega)]
    by_cases c : (b.length : Int) - (e : Int) < (m : Int)
    · rw [if_pos c, if_pos (.inr c)]
    · rw [if_neg c, wr (n := (e : Int) + (m : Int)) (by omega) (by omega), if_pos (by omega), if_pos (by omega), if_pos (by omega), if_neg (fun f => by omega)]
end Go.Proofs.Ytnleeeccpepekaa.Lib
