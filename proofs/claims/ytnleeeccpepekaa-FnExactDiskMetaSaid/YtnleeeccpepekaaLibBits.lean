/- Plain laws on bits; no program is in sight. -/
import Derived.Test.YtnleeeccpepekaaLib
namespace Go.Proofs.Ytnleeeccpepekaa.Lib
open Go Go.RowKit Go.Proofs.YtnleeeccpepekaaW.PrintWords
set_option linter.unusedVariables false
set_option linter.unusedSimpArgs false

/-- A byte put behind a number. -/
theorem or_byte {x y : Int} (hx : 0 ≤ x) (hx2 : x ≤ 1125899906842624) (hy : 0 ≤ y) (hy2 : y < 256) : Go.bits .or .i64 (x * 256) y = x * 256 + y := by
  obtain ⟨a, rfl⟩ := Int.eq_ofNat_of_zero_le hx
  obtain ⟨b, rfl⟩ := Int.eq_ofNat_of_zero_le hy
  show IntKind.i64.wrap (((BitVec.ofInt 64 ((a : Int) * 256)) ||| (BitVec.ofInt 64 (b : Int))).toNat : Nat) = _
  have e1 : (BitVec.ofInt 64 ((a : Int) * 256)).toNat = a * 256 := by rw [BitVec.toNat_ofInt]; omega
  have e2 : (BitVec.ofInt 64 (b : Int)).toNat = b := by rw [BitVec.toNat_ofInt]; omega
  have e3 : a * 256 ||| b = a * 256 + b := by
    have := Nat.shiftLeft_add_eq_or_of_lt (i := 8) (show b < 2 ^ 8 by omega) a
    rw [Nat.shiftLeft_eq] at this
    exact this.symm
  rw [BitVec.toNat_or, e1, e2, e3, IntKind.wrap_i64]
  omega
theorem sonl_inj {xs ys : List Int} (h : Byt xs) (k : Byt ys) : (strOfNums xs).toList = (strOfNums ys).toList ↔ xs = ys := by rw [tl_inj, son_inj h k]
end Go.Proofs.Ytnleeeccpepekaa.Lib
