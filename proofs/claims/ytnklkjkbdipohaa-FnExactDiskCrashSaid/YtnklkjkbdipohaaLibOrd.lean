/- Strings' order as the walks want it: what '>', '<=', '>=' and max come to, each by '<' alone; and that '<' is a total order. -/
import Derived.Test.YtnklkjkbdipohaaWMore
namespace Go.Proofs.Ytnklkjkbdipohaa.Ord
open Go Go.RowKit
theorem bl_nil (x : List UInt8) : Op.bytesLess x [] = false := by cases x <;> rfl
theorem bl_cons (a b : UInt8) (x y : List UInt8) : Op.bytesLess (a :: x) (b :: y) = (decide (a < b) || (a == b && Op.bytesLess x y)) := rfl
theorem bl_irrefl (x : List UInt8) : Op.bytesLess x x = false := by
  induction x with
  | nil => rfl
  | cons a x ih => rw [bl_cons, ih]; simp
theorem bl_asymm : ∀ (x y : List UInt8), Op.bytesLess x y = true → Op.bytesLess y x = false
  | [], [], h => by cases h
  | [], _ :: _, _ => rfl
  | _ :: _, [], h => by cases h
  | a :: x, b :: y, h => by
    rw [bl_cons] at h ⊢
    simp only [Bool.or_eq_true, decide_eq_true_eq, Bool.and_eq_true, beq_iff_eq] at h
    rcases h with h | ⟨rfl, h⟩
    · have h1 : ¬ b < a := by rw [UInt8.lt_iff_toNat_lt] at *; omega
      have h2 : ¬ b = a := by rintro rfl; rw [UInt8.lt_iff_toNat_lt] at h; omega
      simp [h1, h2]
    · simp [bl_asymm x y h]
theorem bl_total : ∀ (x y : List UInt8), x ≠ y → Op.bytesLess x y = false → Op.bytesLess y x = true
  | [], [], h, _ => absurd rfl h
  | [], _ :: _, _, h => by cases h
  | _ :: _, [], _, _ => rfl
  | a :: x, b :: y, hne, h => by
    rw [bl_cons] at h ⊢
    simp only [Bool.or_eq_false_iff, decide_eq_false_iff_not, Bool.and_eq_false_iff, beq_eq_false_iff_ne] at h
    obtain ⟨h1, h2⟩ := h
    by_cases e : a = b
    · subst e
      have h3 : Op.bytesLess x y = false := by
        rcases h2 with h2 | h2
        · exact absurd rfl h2
        · exact h2
      simp [bl_total x y (fun e => hne (by rw [e])) h3]
    · have h3 : b < a := by
        rw [UInt8.lt_iff_toNat_lt] at *
        have : a.toNat ≠ b.toNat := fun h => e (UInt8.toNat_inj.1 h)
        omega
      simp [h3]
theorem bl_trans : ∀ (x y z : List UInt8), Op.bytesLess x y = true → Op.bytesLess y z = true → Op.bytesLess x z = true
  | _, [], _, h, _ => by rw [bl_nil] at h; cases h
  | _, _ :: _, [], _, h => by rw [bl_nil] at h; cases h
  | [], _ :: _, _ :: _, _, _ => rfl
  | a :: x, b :: y, c :: z, h, k => by
    rw [bl_cons] at h k ⊢
    simp only [Bool.or_eq_true, decide_eq_true_eq, Bool.and_eq_true, beq_iff_eq] at h k ⊢
    rcases h with h | ⟨rfl, h⟩
    · rcases k with k | ⟨rfl, k⟩
      · exact .inl (by rw [UInt8.lt_iff_toNat_lt] at *; omega)
      · exact .inl h
    · rcases k with k | ⟨rfl, k⟩
      · exact .inl k
      · exact .inr ⟨rfl, bl_trans x y z h k⟩
theorem bl_or (x y : List UInt8) : (Op.bytesLess x y || x == y) = !(Op.bytesLess y x) := by
  by_cases e : x = y
  · subst e; simp [bl_irrefl]
  · have : (x == y) = false := by simpa using e
    rw [this, Bool.or_false]
    cases h : Op.bytesLess x y with
    | true => rw [bl_asymm _ _ h]; rfl
    | false => rw [bl_total _ _ e h]; rfl
@[go_sem] theorem str_geq (t : TypeId) (a b : ByteArray) : binOp .geq t (.string a) (.string b) = pure (.bool !(Op.bytesLess a.toList b.toList)) := by simp [binOp, Op.stringOp]
@[go_sem] theorem str_gtr (t : TypeId) (a b : ByteArray) : binOp .gtr t (.string a) (.string b) = pure (.bool (Op.bytesLess b.toList a.toList)) := by
  have := bl_or a.toList b.toList
  simp [binOp, Op.stringOp, this]
@[go_sem] theorem str_leq (t : TypeId) (a b : ByteArray) : binOp .leq t (.string a) (.string b) = pure (.bool !(Op.bytesLess b.toList a.toList)) := by
  have := bl_or a.toList b.toList
  simp [binOp, Op.stringOp, this]
/-- A store neither makes a cell nor takes one away. -/
@[go_sem] theorem isSome_setCell (w : World) (p q : Addr) (x : Value) : ((w.setCell p x).cell? q).isSome = (w.cell? q).isSome := by
  simp only [World.setCell, World.cell?, Array.getElem?_modify]
  by_cases hb : p.block = q.block
  · simp only [hb, if_true]
    cases hh : w.heap[q.block]? with
    | none => simp
    | some o =>
      cases o with
      | cells c t fr =>
        simp only [Option.map_some]
        cases q.spot with
        | some _ => simp
        | none =>
          have e : ∀ (a : Array Value) (i : Nat), a[i]?.isSome = decide (i < a.size) := fun a i => by
            rw [Bool.eq_iff_iff, decide_eq_true_iff, Option.isSome_iff_exists]
            constructor
            · rintro ⟨y, hy⟩; exact (Array.getElem?_eq_some_iff.1 hy).1
            · intro h; exact ⟨_, Array.getElem?_eq_getElem h⟩
          cases p.spot <;> simp [e]
      | _ => simp
  · simp [hb]
end Go.Proofs.Ytnklkjkbdipohaa.Ord
