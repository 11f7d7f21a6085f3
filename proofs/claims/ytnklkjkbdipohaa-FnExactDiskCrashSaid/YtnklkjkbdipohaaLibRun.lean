/- Plain laws on loops over a row, as the printed functions tell them; no program is in sight. -/
import Derived.Test.YtnklkjkbdipohaaLib
namespace Go.Proofs.Ytnklkjkbdipohaa.Lib
open Go Go.RowKit Go.Proofs.YtnklkjkbdipohaaW.PrintWords
set_option linter.unusedVariables false
set_option linter.unusedSimpArgs false

/-- A loop that looks at every place and answers false at the first one that is not right, R behind the last one. -/
theorem loop_dec {F : Nat → Int → Option Bool} {len : Nat} {P : Nat → Prop} {R : Bool} (hend : Ev (fun k => F k (len : Int)) R)
    (hok : ∀ i : Nat, i < len → P i → ∀ k, F (k + 1) (i : Int) = F k ((i + 1 : Nat) : Int)) (hno : ∀ i : Nat, i < len → ¬ P i → ∀ k, F (k + 1) (i : Int) = some false) (d : Nat) :
    ∀ i : Nat, i + d = len → Ev (fun k => F k (i : Int)) (dec (∀ j, i ≤ j → j < len → P j) && R) := by
  induction d with
  | zero =>
    intro i hi
    rw [dec_t (fun j h1 h2 => absurd h1 (by omega)), Bool.true_and, show i = len by omega]
    exact hend
  | succ d ih =>
    intro i hi
    by_cases c : P i
    · rw [dec_eq (q := ∀ j, i + 1 ≤ j → j < len → P j) ⟨fun f j h1 h2 => f j (by omega) h2, fun f j h1 h2 => by
        by_cases e : j = i
        · rw [e]; exact c
        · exact f j (by omega) h2⟩]
      exact Ev.step (f := fun k => F k ((i + 1 : Nat) : Int)) (fun k => hok i (by omega) c k) (ih (i + 1) (by omega))
    · rw [dec_f (fun f => c (f i (Nat.le_refl _) (by omega))), Bool.false_and]
      exact Ev.step1 fun k => hno i (by omega) c k
/-- The same, from the first place on. -/
theorem loop_dec0 {F : Nat → Int → Option Bool} {len : Nat} {P : Nat → Prop} {R : Bool} (hend : Ev (fun k => F k (len : Int)) R)
    (hok : ∀ i : Nat, i < len → P i → ∀ k, F (k + 1) (i : Int) = F k ((i + 1 : Nat) : Int)) (hno : ∀ i : Nat, i < len → ¬ P i → ∀ k, F (k + 1) (i : Int) = some false) :
    Ev (fun k => F k 0) (dec (∀ j, j < len → P j) && R) := by
  have := loop_dec hend hok hno len 0 (by omega)
  rw [dec_eq (q := ∀ j, j < len → P j) ⟨fun f j h => f j (by omega) h, fun f j _ h => f j h⟩] at this
  exact this
/-- A loop that runs on to its end, come what may: it answers something. -/
theorem loop_some {α : Type} {F : Nat → Int → Option α} {len : Nat} {P : α → Prop} (hend : ∃ r, Ev (fun k => F k (len : Int)) r ∧ P r)
    (hrun : ∀ i : Nat, i < len → (∀ k, F (k + 1) (i : Int) = F k ((i + 1 : Nat) : Int)) ∨ (∃ r, (∀ k, F (k + 1) (i : Int) = some r) ∧ P r)) (d : Nat) :
    ∀ i : Nat, i + d = len → ∃ r, Ev (fun k => F k (i : Int)) r ∧ P r := by
  induction d with
  | zero => intro i hi; rw [show i = len by omega]; exact hend
  | succ d ih =>
    intro i hi
    rcases hrun i (by omega) with h | ⟨r, h, hp⟩
    · obtain ⟨r, hr, hp⟩ := ih (i + 1) (by omega)
      exact ⟨r, Ev.step (f := fun k => F k ((i + 1 : Nat) : Int)) (fun k => h k) hr, hp⟩
    · exact ⟨r, Ev.step1 h, hp⟩
theorem beq_dec (a b : Int) : (a == b) = dec (a = b) := bool_dec beq_iff_eq
theorem and_dec {p q : Prop} : (dec p && dec q) = dec (p ∧ q) := bool_dec (by rw [Bool.and_eq_true, dec_iff, dec_iff])
end Go.Proofs.Ytnklkjkbdipohaa.Lib
