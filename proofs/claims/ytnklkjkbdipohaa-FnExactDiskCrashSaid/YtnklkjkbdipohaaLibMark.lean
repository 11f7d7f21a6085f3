/- Plain laws on rows that are marked from the front; no program is in sight. -/
import Derived.Test.YtnklkjkbdipohaaLib
namespace Go.Proofs.Ytnklkjkbdipohaa.Lib
open Go Go.RowKit Go.Proofs.YtnklkjkbdipohaaW.PrintWords
set_option linter.unusedVariables false
set_option linter.unusedSimpArgs false

/-- The row of f 0, f 1, .. -/
def mks {α : Type} (f : Nat → α) (n : Nat) : List α := (List.range n).map f
theorem mks_len {α : Type} (f : Nat → α) (n : Nat) : (mks f n).length = n := by simp [mks]
theorem mks_succ {α : Type} (f : Nat → α) (n : Nat) : mks f (n + 1) = mks f n ++ [f n] := by simp [mks, List.range_succ]
theorem mks_zero {α : Type} (f : Nat → α) : mks f 0 = [] := rfl
theorem mks_get {α : Type} (f : Nat → α) (z : α) {n i : Nat} (h : i < n) : (mks f n).getD i z = f i := by
  rw [List.getD_eq_getElem?_getD, List.getElem?_eq_getElem (by rw [mks_len]; exact h)]
  simp [mks]
theorem mks_drop_len {α : Type} (f : Nat → α) (l : List α) {i : Nat} (h : i ≤ l.length) : (mks f i ++ l.drop i).length = l.length := by simp [mks]; omega
theorem mks_set {α : Type} (f : Nat → α) (l : List α) {i : Nat} (h : i < l.length) (v : α) : (mks f i ++ l.drop i).set i v = mks f i ++ v :: l.drop (i + 1) := by
  rw [List.set_append_right _ _ (by rw [mks_len]; omega), mks_len, Nat.sub_self, List.drop_eq_getElem_cons h, List.set_cons_zero]
theorem mks_set2 {α : Type} (f : Nat → α) (r : List α) (i : Nat) (u v : α) : (mks f i ++ u :: r).set i v = mks f i ++ v :: r := by
  rw [List.set_append_right _ _ (by rw [mks_len]; omega), mks_len, Nat.sub_self, List.set_cons_zero]
theorem mks_at {α : Type} (f : Nat → α) (r : List α) (z : α) (i : Nat) (u : α) : (mks f i ++ u :: r).getD i z = u := by
  rw [List.getD_eq_getElem?_getD, List.getElem?_append_right (by rw [mks_len]; omega), mks_len, Nat.sub_self]; rfl
theorem mks_put {α : Type} (f : Nat → α) (r : List α) (i : Nat) : mks f i ++ f i :: r = mks f (i + 1) ++ r := by rw [mks_succ, List.append_assoc]; rfl
theorem mks_all {α : Type} (f : Nat → α) (l : List α) : mks f l.length ++ l.drop l.length = mks f l.length := by rw [List.drop_of_length_le (Nat.le_refl _), List.append_nil]
end Go.Proofs.Ytnklkjkbdipohaa.Lib
