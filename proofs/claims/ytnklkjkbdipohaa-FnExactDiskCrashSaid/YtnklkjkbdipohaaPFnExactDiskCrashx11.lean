-- A program of this claim's session wrote this text.
import Derived.Test.YtnklkjkbdipohaaPFnExactDiskCrashx0
namespace Go.Proofs.Ytnklkjkbdipohaa.PFnExactDiskCrash
open Go.RowKit Go.Proofs.YtnklkjkbdipohaaW.PrintWords Go.Proofs.YtnklkjkbdipohaaW.PrintLast Go.Proofs.YtnklkjkbdipohaaW.PrintMore
attribute [local go_sem] max2_int min2_int max_two min_two max_three min_three max_four min_four   -- for this text's walks alone
set_option linter.unusedVariables false
set_option linter.unusedSimpArgs false

theorem cut_len_ {α : Type} {R : α → List Go.Value → Prop} {size : Nat} {w : Go.World} {A : Option Go.Addr} {n m : Nat} {ps : List α} (h : ReadsRow R size w A n ps) (e : n = m) : ReadsRow R size w A m ps := e ▸ h

/-! ### impl_Tear: function 75 -/
def impl_Tear.f (l0 : List Int) (l1 : List Int) (a2 : Int) : Option (List Int) := if (l0.length : Int) = 0 then (if 512 ≤ 281474976710656 then ((some (List.replicate 512 0 : List Int)).bind fun y290 => (if (l1.length : Int) = 0 then ((some (List.replicate 512 0 : List Int)).bind fun y293 => (if (y290.length : Int) = 512 then (if (y293.length : Int) = 512 then ((some (([] : List Int) : List Int)).bind fun y296 => (if 0 ≤ (mx 0 (mn a2 512)) then (if (mx 0 (mn a2 512)) ≤ (y293.length : Int) then ((some (y293.take ((mx 0 (mn a2 512)) : Int).toNat : List Int)).bind fun y299 => (if y296.length + y299.length < 140737488355328 then ((some (y296 ++ y299 : List Int)).bind fun y303 => (if (mx 0 (mn a2 512)) ≤ (y290.length : Int) then ((some (y290.drop ((mx 0 (mn a2 512)) : Int).toNat : List Int)).bind fun y306 => (if y303.length + y306.length < 140737488355328 then (some (y303 ++ y306)) else (none))) else (none))) else (none))) else (none)) else (none))) else (some ([] : List Int))) else (some ([] : List Int)))) else (if (y290.length : Int) = 512 then (if (l1.length : Int) = 512 then ((some (([] : List Int) : List Int)).bind fun y313 => (if 0 ≤ (mx 0 (mn a2 512)) then (if (mx 0 (mn a2 512)) ≤ (l1.length : Int) then (if y313.length + (l1.take ((mx 0 (mn a2 512)) : Int).toNat).length < 140737488355328 then ((some (y313 ++ (l1.take ((mx 0 (mn a2 512)) : Int).toNat) : List Int)).bind fun y317 => (if (mx 0 (mn a2 512)) ≤ (y290.length : Int) then ((some (y290.drop ((mx 0 (mn a2 512)) : Int).toNat : List Int)).bind fun y320 => (if y317.length + y320.length < 140737488355328 then (some (y317 ++ y320)) else (none))) else (none))) else (none)) else (none)) else (none))) else (some ([] : List Int))) else (some ([] : List Int))))) else (none)) else (if (l1.length : Int) = 0 then (if 512 ≤ 281474976710656 then ((some (List.replicate 512 0 : List Int)).bind fun y327 => (if (l0.length : Int) = 512 then (if (y327.length : Int) = 512 then ((some (([] : List Int) : List Int)).bind fun y330 => (if 0 ≤ (mx 0 (mn a2 512)) then (if (mx 0 (mn a2 512)) ≤ (y327.length : Int) then ((some (y327.take ((mx 0 (mn a2 512)) : Int).toNat : List Int)).bind fun y333 => (if y330.length + y333.length < 140737488355328 then ((some (y330 ++ y333 : List Int)).bind fun y337 => (if (mx 0 (mn a2 512)) ≤ (l0.length : Int) then (if y337.length + (l0.drop ((mx 0 (mn a2 512)) : Int).toNat).length < 140737488355328 then (some (y337 ++ (l0.drop ((mx 0 (mn a2 512)) : Int).toNat))) else (none)) else (none))) else (none))) else (none)) else (none))) else (some ([] : List Int))) else (some ([] : List Int)))) else (none)) else (if (l0.length : Int) = 512 then (if (l1.length : Int) = 512 then ((some (([] : List Int) : List Int)).bind fun y344 => (if 0 ≤ (mx 0 (mn a2 512)) then (if (mx 0 (mn a2 512)) ≤ (l1.length : Int) then (if y344.length + (l1.take ((mx 0 (mn a2 512)) : Int).toNat).length < 140737488355328 then ((some (y344 ++ (l1.take ((mx 0 (mn a2 512)) : Int).toNat) : List Int)).bind fun y348 => (if (mx 0 (mn a2 512)) ≤ (l0.length : Int) then (if y348.length + (l0.drop ((mx 0 (mn a2 512)) : Int).toNat).length < 140737488355328 then (some (y348 ++ (l0.drop ((mx 0 (mn a2 512)) : Int).toNat))) else (none)) else (none))) else (none)) else (none)) else (none))) else (some ([] : List Int))) else (some ([] : List Int))))
def impl_Tear.T8 : Bool × List (List Nat × List Nat) := (true, [([], []), ([], []), ([], []), ([1, 2], [1, 2]), ([0, 3], [0, 3]), ([], []), ([], []), ([5, 6], [5, 6]), ([4, 7, 4], [4, 7]), ([8, 8, 0, 1, 2, 3, 4, 5, 6, 7, 8], [8])])
def impl_Tear.B8 : List Nat := [0, 0, 0, 6, 15, 0, 0, 96, 255, 511]
theorem impl_Tear.tab8 : rtab .any (opsOf Try.f75 8) = impl_Tear.T8 := by kernel_rfl
theorem impl_Tear.bits8 : waitsOk impl_Tear.T8.2 impl_Tear.B8 = true := by kernel_rfl
set_option maxHeartbeats 8000000 in
set_option maxRecDepth 100000 in
theorem impl_Tear.calls (A0 : Option Addr) (c0 : Nat) (l0 : List Int) (A1 : Option Addr) (c1 : Nat) (l1 : List Int) (a2 : Int) (r : List Int) (w : World) (hr0 : Kd.C (Kd.int .u8) w A0 l0.length l0) (hc0 : l0.length ≤ c0) (hr1 : Kd.C (Kd.int .u8) w A1 l1.length l1) (hc1 : l1.length ≤ c1) (h : impl_Tear.f l0 l1 a2 = some r) :
    Calls Try.prog 75 #[.slice A0 l0.length c0, .slice A1 l1.length c1, .int .i64 a2] w fun e w' => ∃ v0_ : Value, e = .returned (v0_) ∧ Kd.R (Kd.int .u8) 5 w' w.heap.size (fun _ => True) v0_ r ∧ Below w.heap.size w w' := by
  have HR0 := Aside0.mk hr0
  have HC0 := Aside0.mk hc0
  clear hr0 hc0
  have HR1 := Aside0.mk hr1
  have HC1 := Aside0.mk hc1
  clear hr1 hc1
  have HB := Aside0.mk (Below.refl w.heap.size w)
  have H : (if (l0.length : Int) = 0 then (if 512 ≤ 281474976710656 then ((some (List.replicate 512 0 : List Int)).bind fun y290 => (if (l1.length : Int) = 0 then ((some (List.replicate 512 0 : List Int)).bind fun y293 => (if (y290.length : Int) = 512 then (if (y293.length : Int) = 512 then ((some (([] : List Int) : List Int)).bind fun y296 => (if 0 ≤ (mx 0 (mn a2 512)) then (if (mx 0 (mn a2 512)) ≤ (y293.length : Int) then ((some (y293.take ((mx 0 (mn a2 512)) : Int).toNat : List Int)).bind fun y299 => (if y296.length + y299.length < 140737488355328 then ((some (y296 ++ y299 : List Int)).bind fun y303 => (if (mx 0 (mn a2 512)) ≤ (y290.length : Int) then ((some (y290.drop ((mx 0 (mn a2 512)) : Int).toNat : List Int)).bind fun y306 => (if y303.length + y306.length < 140737488355328 then (some (y303 ++ y306)) else (none))) else (none))) else (none))) else (none)) else (none))) else (some ([] : List Int))) else (some ([] : List Int)))) else (if (y290.length : Int) = 512 then (if (l1.length : Int) = 512 then ((some (([] : List Int) : List Int)).bind fun y313 => (if 0 ≤ (mx 0 (mn a2 512)) then (if (mx 0 (mn a2 512)) ≤ (l1.length : Int) then (if y313.length + (l1.take ((mx 0 (mn a2 512)) : Int).toNat).length < 140737488355328 then ((some (y313 ++ (l1.take ((mx 0 (mn a2 512)) : Int).toNat) : List Int)).bind fun y317 => (if (mx 0 (mn a2 512)) ≤ (y290.length : Int) then ((some (y290.drop ((mx 0 (mn a2 512)) : Int).toNat : List Int)).bind fun y320 => (if y317.length + y320.length < 140737488355328 then (some (y317 ++ y320)) else (none))) else (none))) else (none)) else (none)) else (none))) else (some ([] : List Int))) else (some ([] : List Int))))) else (none)) else (if (l1.length : Int) = 0 then (if 512 ≤ 281474976710656 then ((some (List.replicate 512 0 : List Int)).bind fun y327 => (if (l0.length : Int) = 512 then (if (y327.length : Int) = 512 then ((some (([] : List Int) : List Int)).bind fun y330 => (if 0 ≤ (mx 0 (mn a2 512)) then (if (mx 0 (mn a2 512)) ≤ (y327.length : Int) then ((some (y327.take ((mx 0 (mn a2 512)) : Int).toNat : List Int)).bind fun y333 => (if y330.length + y333.length < 140737488355328 then ((some (y330 ++ y333 : List Int)).bind fun y337 => (if (mx 0 (mn a2 512)) ≤ (l0.length : Int) then (if y337.length + (l0.drop ((mx 0 (mn a2 512)) : Int).toNat).length < 140737488355328 then (some (y337 ++ (l0.drop ((mx 0 (mn a2 512)) : Int).toNat))) else (none)) else (none))) else (none))) else (none)) else (none))) else (some ([] : List Int))) else (some ([] : List Int)))) else (none)) else (if (l0.length : Int) = 512 then (if (l1.length : Int) = 512 then ((some (([] : List Int) : List Int)).bind fun y344 => (if 0 ≤ (mx 0 (mn a2 512)) then (if (mx 0 (mn a2 512)) ≤ (l1.length : Int) then (if y344.length + (l1.take ((mx 0 (mn a2 512)) : Int).toNat).length < 140737488355328 then ((some (y344 ++ (l1.take ((mx 0 (mn a2 512)) : Int).toNat) : List Int)).bind fun y348 => (if (mx 0 (mn a2 512)) ≤ (l0.length : Int) then (if y348.length + (l0.drop ((mx 0 (mn a2 512)) : Int).toNat).length < 140737488355328 then (some (y348 ++ (l0.drop ((mx 0 (mn a2 512)) : Int).toNat))) else (none)) else (none))) else (none)) else (none)) else (none))) else (some ([] : List Int))) else (some ([] : List Int))))) = some r := h
  clear h
  by_cases c4 : (l0.length : Int) = 0
  · rw [if_pos c4] at H
    have c4b0 : ((l0.length : Int) == 0) = true := beq_iff_eq.mpr c4
    have c4b1 : ((l0.length : Int) != 0) = false := bne_eq_false_iff_eq.mpr c4
    clear c4
    by_cases c5 : 512 ≤ 281474976710656
    · rw [if_pos c5] at H
      have c5b0 := eq_true c5
      have c5b1 : decide (512 ≤ 281474976710656) = true := decide_eq_true c5
      clear c5
      obtain ⟨y290, hy290⟩ : ∃ y_ : List Int, y_ = (List.replicate 512 0) := ⟨_, rfl⟩
      replace H : (if (l1.length : Int) = 0 then ((some (List.replicate 512 0 : List Int)).bind fun y293 => (if (y290.length : Int) = 512 then (if (y293.length : Int) = 512 then ((some (([] : List Int) : List Int)).bind fun y296 => (if 0 ≤ (mx 0 (mn a2 512)) then (if (mx 0 (mn a2 512)) ≤ (y293.length : Int) then ((some (y293.take ((mx 0 (mn a2 512)) : Int).toNat : List Int)).bind fun y299 => (if y296.length + y299.length < 140737488355328 then ((some (y296 ++ y299 : List Int)).bind fun y303 => (if (mx 0 (mn a2 512)) ≤ (y290.length : Int) then ((some (y290.drop ((mx 0 (mn a2 512)) : Int).toNat : List Int)).bind fun y306 => (if y303.length + y306.length < 140737488355328 then (some (y303 ++ y306)) else (none))) else (none))) else (none))) else (none)) else (none))) else (some ([] : List Int))) else (some ([] : List Int)))) else (if (y290.length : Int) = 512 then (if (l1.length : Int) = 512 then ((some (([] : List Int) : List Int)).bind fun y313 => (if 0 ≤ (mx 0 (mn a2 512)) then (if (mx 0 (mn a2 512)) ≤ (l1.length : Int) then (if y313.length + (l1.take ((mx 0 (mn a2 512)) : Int).toNat).length < 140737488355328 then ((some (y313 ++ (l1.take ((mx 0 (mn a2 512)) : Int).toNat) : List Int)).bind fun y317 => (if (mx 0 (mn a2 512)) ≤ (y290.length : Int) then ((some (y290.drop ((mx 0 (mn a2 512)) : Int).toNat : List Int)).bind fun y320 => (if y317.length + y320.length < 140737488355328 then (some (y317 ++ y320)) else (none))) else (none))) else (none)) else (none)) else (none))) else (some ([] : List Int))) else (some ([] : List Int)))) = some r := by first | (rw [hy290]; with_reducible exact H) | (have H2_ := (Option.bind_some _ _).symm.trans H; rw [hy290]; with_reducible exact H2_) | (have H2_ := (Option.bind_some _ _).symm.trans H; with_reducible exact H2_) | with_reducible exact H | (rw [hy290]; exact H) | exact H
      have Ny290 := Aside0.mk hy290
      clear hy290
      by_cases c6 : (l1.length : Int) = 0
      · rw [if_pos c6] at H
        have c6b0 : ((l1.length : Int) == 0) = true := beq_iff_eq.mpr c6
        have c6b1 : ((l1.length : Int) != 0) = false := bne_eq_false_iff_eq.mpr c6
        clear c6
        obtain ⟨y293, hy293⟩ : ∃ y_ : List Int, y_ = (List.replicate 512 0) := ⟨_, rfl⟩
        replace H : (if (y290.length : Int) = 512 then (if (y293.length : Int) = 512 then ((some (([] : List Int) : List Int)).bind fun y296 => (if 0 ≤ (mx 0 (mn a2 512)) then (if (mx 0 (mn a2 512)) ≤ (y293.length : Int) then ((some (y293.take ((mx 0 (mn a2 512)) : Int).toNat : List Int)).bind fun y299 => (if y296.length + y299.length < 140737488355328 then ((some (y296 ++ y299 : List Int)).bind fun y303 => (if (mx 0 (mn a2 512)) ≤ (y290.length : Int) then ((some (y290.drop ((mx 0 (mn a2 512)) : Int).toNat : List Int)).bind fun y306 => (if y303.length + y306.length < 140737488355328 then (some (y303 ++ y306)) else (none))) else (none))) else (none))) else (none)) else (none))) else (some ([] : List Int))) else (some ([] : List Int))) = some r := by first | (rw [hy293]; with_reducible exact H) | (have H2_ := (Option.bind_some _ _).symm.trans H; rw [hy293]; with_reducible exact H2_) | (have H2_ := (Option.bind_some _ _).symm.trans H; with_reducible exact H2_) | with_reducible exact H | (rw [hy293]; exact H) | exact H
        have Ny293 := Aside0.mk hy293
        clear hy293
        by_cases c7 : (y290.length : Int) = 512
        · rw [if_pos c7] at H
          have c7b0 : ((y290.length : Int) == 512) = true := beq_iff_eq.mpr c7
          have c7b1 : ((y290.length : Int) != 512) = false := bne_eq_false_iff_eq.mpr c7
          clear c7
          by_cases c8 : (y293.length : Int) = 512
          · rw [if_pos c8] at H
            have c8b0 : ((y293.length : Int) == 512) = true := beq_iff_eq.mpr c8
            have c8b1 : ((y293.length : Int) != 512) = false := bne_eq_false_iff_eq.mpr c8
            clear c8
            obtain ⟨ji9, hji9⟩ : ∃ j_ : Int, (mn a2 512) = j_ := ⟨_, rfl⟩
            replace H : ((some (([] : List Int) : List Int)).bind fun y296 => (if 0 ≤ (mx 0 (ji9)) then (if (mx 0 (ji9)) ≤ (y293.length : Int) then ((some (y293.take ((mx 0 (ji9)) : Int).toNat : List Int)).bind fun y299 => (if y296.length + y299.length < 140737488355328 then ((some (y296 ++ y299 : List Int)).bind fun y303 => (if (mx 0 (ji9)) ≤ (y290.length : Int) then ((some (y290.drop ((mx 0 (ji9)) : Int).toNat : List Int)).bind fun y306 => (if y303.length + y306.length < 140737488355328 then (some (y303 ++ y306)) else (none))) else (none))) else (none))) else (none)) else (none))) = some r := by first | (rw [hji9] at H; exact H) | (simp only [hji9] at H ⊢; exact H)
            (try (have hji9h : ji9 ≤ 512 := by (rw [← hji9]; unfold mn; (repeat' split) <;> omega)))
            (try (have hji9g : ji9 ≤ 64 := by omega))
            have hji9_ : (if 512 < a2 then 512 else a2) = ji9 := hji9
            obtain ⟨ji10, hji10⟩ : ∃ j_ : Int, (mx 0 (ji9)) = j_ := ⟨_, rfl⟩
            replace H : ((some (([] : List Int) : List Int)).bind fun y296 => (if 0 ≤ (ji10) then (if (ji10) ≤ (y293.length : Int) then ((some (y293.take ((ji10) : Int).toNat : List Int)).bind fun y299 => (if y296.length + y299.length < 140737488355328 then ((some (y296 ++ y299 : List Int)).bind fun y303 => (if (ji10) ≤ (y290.length : Int) then ((some (y290.drop ((ji10) : Int).toNat : List Int)).bind fun y306 => (if y303.length + y306.length < 140737488355328 then (some (y303 ++ y306)) else (none))) else (none))) else (none))) else (none)) else (none))) = some r := by first | (rw [hji10] at H; exact H) | (simp only [hji10] at H ⊢; exact H)
            have hji10_ : (if 0 < (ji9) then (ji9) else 0) = ji10 := hji10
            obtain ⟨y296, hy296⟩ : ∃ y_ : List Int, y_ = (([] : List Int)) := ⟨_, rfl⟩
            replace H : (if 0 ≤ (ji10) then (if (ji10) ≤ (y293.length : Int) then ((some (y293.take ((ji10) : Int).toNat : List Int)).bind fun y299 => (if y296.length + y299.length < 140737488355328 then ((some (y296 ++ y299 : List Int)).bind fun y303 => (if (ji10) ≤ (y290.length : Int) then ((some (y290.drop ((ji10) : Int).toNat : List Int)).bind fun y306 => (if y303.length + y306.length < 140737488355328 then (some (y303 ++ y306)) else (none))) else (none))) else (none))) else (none)) else (none)) = some r := by first | (rw [hy296]; with_reducible exact H) | (have H2_ := (Option.bind_some _ _).symm.trans H; rw [hy296]; with_reducible exact H2_) | (have H2_ := (Option.bind_some _ _).symm.trans H; with_reducible exact H2_) | with_reducible exact H | (rw [hy296]; exact H) | exact H
            have Ny296 := Aside0.mk hy296
            clear hy296
            by_cases c11 : 0 ≤ (ji10)
            · rw [if_pos c11] at H
              have c11b0 := eq_true c11
              have c11b1 : decide (0 ≤ (ji10)) = true := decide_eq_true c11
              clear c11
              by_cases c12 : (ji10) ≤ (y293.length : Int)
              · rw [if_pos c12] at H
                have c12b0 := eq_true c12
                have c12b1 : decide ((ji10) ≤ (y293.length : Int)) = true := decide_eq_true c12
                clear c12
                obtain ⟨y299, hy299⟩ : ∃ y_ : List Int, y_ = (y293.take ((ji10) : Int).toNat) := ⟨_, rfl⟩
                replace H : (if y296.length + y299.length < 140737488355328 then ((some (y296 ++ y299 : List Int)).bind fun y303 => (if (ji10) ≤ (y290.length : Int) then ((some (y290.drop ((ji10) : Int).toNat : List Int)).bind fun y306 => (if y303.length + y306.length < 140737488355328 then (some (y303 ++ y306)) else (none))) else (none))) else (none)) = some r := by first | (rw [hy299]; with_reducible exact H) | (have H2_ := (Option.bind_some _ _).symm.trans H; rw [hy299]; with_reducible exact H2_) | (have H2_ := (Option.bind_some _ _).symm.trans H; with_reducible exact H2_) | with_reducible exact H | (rw [hy299]; exact H) | exact H
                have Ny299 := Aside0.mk hy299
                clear hy299
                by_cases c13 : y296.length + y299.length < 140737488355328
                · rw [if_pos c13] at H
                  have LMc13 := Aside0.mk c13
                  clear c13
                  obtain ⟨y303, hy303⟩ : ∃ y_ : List Int, y_ = (y296 ++ y299) := ⟨_, rfl⟩
                  replace H : (if (ji10) ≤ (y290.length : Int) then ((some (y290.drop ((ji10) : Int).toNat : List Int)).bind fun y306 => (if y303.length + y306.length < 140737488355328 then (some (y303 ++ y306)) else (none))) else (none)) = some r := by first | (rw [hy303]; with_reducible exact H) | (have H2_ := (Option.bind_some _ _).symm.trans H; rw [hy303]; with_reducible exact H2_) | (have H2_ := (Option.bind_some _ _).symm.trans H; with_reducible exact H2_) | with_reducible exact H | (rw [hy303]; exact H) | exact H
                  have Ny303 := Aside0.mk hy303
                  clear hy303
                  have c14b0 := eq_true (of_decide_eq_true (by first | (with_reducible assumption) | assumption) : 0 ≤ (ji10))
                  by_cases c15 : (ji10) ≤ (y290.length : Int)
                  · rw [if_pos c15] at H
                    have c15b0 := eq_true c15
                    have c15b1 : decide ((ji10) ≤ (y290.length : Int)) = true := decide_eq_true c15
                    clear c15
                    obtain ⟨y306, hy306⟩ : ∃ y_ : List Int, y_ = (y290.drop ((ji10) : Int).toNat) := ⟨_, rfl⟩
                    replace H : (if y303.length + y306.length < 140737488355328 then (some (y303 ++ y306)) else (none)) = some r := by first | (rw [hy306]; with_reducible exact H) | (have H2_ := (Option.bind_some _ _).symm.trans H; rw [hy306]; with_reducible exact H2_) | (have H2_ := (Option.bind_some _ _).symm.trans H; with_reducible exact H2_) | with_reducible exact H | (rw [hy306]; exact H) | exact H
                    have Ny306 := Aside0.mk hy306
                    clear hy306
                    by_cases c16 : y303.length + y306.length < 140737488355328
                    · rw [if_pos c16] at H
                      have LMc16 := Aside0.mk c16
                      clear c16
                      obtain ⟨y310, hy310⟩ : ∃ y_ : List Int, y_ = (y303 ++ y306) := ⟨_, rfl⟩
                      replace H : (some y310) = some r := by first | (rw [hy310]; with_reducible exact H) | (have H2_ := (Option.bind_some _ _).symm.trans H; rw [hy310]; with_reducible exact H2_) | (have H2_ := (Option.bind_some _ _).symm.trans H; with_reducible exact H2_) | with_reducible exact H | (rw [hy310]; exact H) | exact H
                      have Ny310 := Aside0.mk hy310
                      clear hy310
                      obtain rfl := Option.some.inj H
                      go_enter Try.func75, Try.ntmps75
                      try go_wp2_with (first | ((with_reducible refine gate_dst (N := 10) rfl ?_); (try (refine gate_guard (by rfl) ?_; dsimp only)); refine Kd.R_make (Kd.int .u8) _ 5 rfl (N := 10) rfl 42 _ _ rfl 512 rfl rfl Try.underlying42 (.int .u8 0) 1 info5 rfl (by decide) (by omega) 0 (ok := fun _ => True) (okp := fun _ => True) rfl (fun _ hk => hk) trivial (by omega) (by omega) (Below.refl _ _) (Nat.le_refl _) ?_; intro v291 w17 ho18 hb hg_ hnew_; clear hg_ hnew_; (first | rw [← Ny290.out] at ho18 | (simp only [Int.reduceToNat] at ho18; rw [← Ny290.out] at ho18)); have n0_ := Aside0.mk (Kd.R_lower ho18 (below_size (by repeat (first | (with_reducible first | exact HB.out | apply below_alloc | apply pw_below_drewN | apply below_drew1) | exact HB.out)))); have n1_ := Aside0.mk (below_step (by repeat (first | (with_reducible first | exact HB.out | apply below_alloc | apply pw_below_drewN | apply below_drew1) | exact HB.out)) hb); clear HB; have HO292 := n0_; have HB := n1_; clear n0_ n1_; clear hb ho18) | ((with_reducible refine gate_dst (N := 14) rfl ?_); (try (refine gate_guard (by rfl) ?_; dsimp only)); refine Kd.R_make (Kd.int .u8) _ 5 rfl (N := 14) rfl 42 _ _ rfl 512 rfl rfl Try.underlying42 (.int .u8 0) 1 info5 rfl (by decide) (by omega) 0 (ok := fun _ => True) (okp := fun _ => True) rfl (fun _ hk => hk) trivial (by omega) (by omega) (Below.refl _ _) (Nat.le_refl _) ?_; intro v294 w19 ho20 hb hg_ hnew_; clear hg_ hnew_; (first | rw [← Ny293.out] at ho20 | (simp only [Int.reduceToNat] at ho20; rw [← Ny293.out] at ho20)); have n0_ := Aside0.mk (Kd.R_elder' (by (with_reducible repeat (first | apply Kd.R_alloc | apply Kd.R_drewN | apply Kd.R_drew)); exact HO292.out) (Kd.R_base ho20) hb); have n1_ := Aside0.mk (Kd.R_lower (Kd.R_new' ho20 (Kd.R_lt (by (with_reducible repeat (first | apply Kd.R_alloc | apply Kd.R_drewN | apply Kd.R_drew)); exact HO292.out))) (below_size (by repeat (first | (with_reducible first | exact HB.out | apply below_alloc | apply pw_below_drewN | apply below_drew1) | exact HB.out)))); have n2_ := Aside0.mk (below_step (by repeat (first | (with_reducible first | exact HB.out | apply below_alloc | apply pw_below_drewN | apply below_drew1) | exact HB.out)) hb); clear HO292; clear HB; have HO292 := n0_; have HO295 := n1_; have HB := n2_; clear n0_ n1_ n2_; clear hb ho20; obtain ⟨Ao21, co21, eo21⟩ := Kd.R_slice HO292.out; subst eo21; obtain ⟨Ao22, co22, eo22⟩ := Kd.R_slice HO295.out; subst eo22))
                      have n0_ := Aside0.mk (Kd.R_drew HO292.out)
                      have n1_ := Aside0.mk (Kd.R_drew HO295.out)
                      have n2_ := Aside0.mk (below_drew1 HB.out)
                      clear HO292
                      clear HO295
                      clear HB
                      have HO292 := n0_
                      have HO295 := n1_
                      have HB := n2_
                      clear n0_ n1_ n2_
                      have q24 : ((ji10) : Int) ≤ ((y293.length : Int) : Int) := of_decide_eq_true (by first | (with_reducible assumption) | assumption)
                      obtain ⟨i024, hi024, _, hsz24, _⟩ := info_parts info5
                      have hroom24 : y293.length ≤ co22 := (Kd.R_reads' HO295.out).2.1
                      have hC24 : Kd.C (Kd.int .u8) _ Ao22 y293.length y293 := (Kd.R_reads' HO295.out).2.2
                      have hcut24 := cut_to (P := Try.prog) 42 5 .i64 Try.underlying42 hi024 Ao22 y293.length co22 (ji10) (of_decide_eq_true (by first | (with_reducible assumption) | assumption)) q24 hroom24
                      have hr24 := Kd.C_take (m := ((ji10) : Int).toNat) hC24 (by omega)
                      have hy24 : y299.length = ((ji10) : Int).toNat := (by rw [Ny299.out, List.length_take]; omega)
                      rw [← Ny299.out] at hr24
                      rw [← hy24] at hcut24
                      have HR302 := Aside0.mk hr24
                      have HC302 := Aside0.mk (show y299.length ≤ co22 from by omega)
                      clear hr24 hC24 hroom24 hi024 hsz24
                      have KY24 := Aside0.mk hy24
                      clear hy24
                      have KL24 := Aside0.mk (show ((ji10) : Int).toNat ≤ y293.length from by omega)
                      replace q24 := eq_true q24
                      have q25 : ((ji10) : Int) ≤ ((y290.length : Int) : Int) := of_decide_eq_true (by first | (with_reducible assumption) | assumption)
                      obtain ⟨i025, hi025, _, hsz25, _⟩ := info_parts info5
                      have hroom25 : y290.length ≤ co21 := (Kd.R_reads' HO292.out).2.1
                      have hC25 : Kd.C (Kd.int .u8) _ Ao21 y290.length y290 := (Kd.R_reads' HO292.out).2.2
                      have q025 : (0 : Int) ≤ ((ji10) : Int) := of_decide_eq_true (by first | (with_reducible assumption) | assumption)
                      have hcut25 := cut_from (P := Try.prog) 42 5 .i64 Try.underlying42 hi025 1 hsz25 Ao21 y290.length co21 (ji10) q025 q25
                      have hr25 := Kd.C_drop (m := ((ji10) : Int).toNat) (c := co21) hC25 (by omega) hroom25
                      obtain ⟨A25, hA25⟩ : ∃ A1, A1 = (if co21 = ((ji10) : Int).toNat then Ao21 else (Ao21 : Option Addr).map (·.add (((ji10) : Int).toNat * 1))) := ⟨_, rfl⟩
                      obtain ⟨c25, hc25⟩ : ∃ c1, c1 = co21 - ((ji10) : Int).toNat := ⟨_, rfl⟩
                      have hy25 : y306.length = y290.length - ((ji10) : Int).toNat := (by rw [Ny306.out, List.length_drop] <;> omega)
                      rw [show (y290).drop ((ji10) : Int).toNat = y306 from Ny306.out.symm] at hr25
                      replace hr25 : Kd.C (Kd.int .u8) _ A25 y306.length y306 := (by rw [hA25]; exact hr25)
                      rw [← hy25, ← hA25, ← hc25] at hcut25
                      have HR309 := Aside0.mk hr25
                      have HC309 := Aside0.mk (show y306.length ≤ c25 from by rw [hy25, hc25]; exact Nat.sub_le_sub_right hroom25 _)
                      clear hr25 hC25 hroom25 hi025 hsz25 hc25
                      have KY25 := Aside0.mk hy25
                      have KA25 := Aside0.mk hA25
                      clear hy25 hA25
                      have KL25 := Aside0.mk (show ((ji10) : Int).toNat ≤ y290.length from by omega)
                      replace q25 := eq_true q25
                      refine start_ (n := 10) (S := fun w' => True) (ds := []) #[false, false, false, false, false, false, false, false, false, false] (by kernel_rfl) rfl rfl trivial (fun hHeld => ?_); refine with_tabW impl_Tear.tab8 impl_Tear.bits8 (fun HT_ HW_ => ?_)
                      generalize w19.drew = w23 at HO292 HO295 HB HR302 HR309 hHeld ⊢
                      refine pure_ (i := 1) (N := some 27) (v := ?_) (a' := ?_) #[false, true, false, false, false, false, false, false, false, false] rfl rfl (any_of HT_.out (by kernel_rfl)) (fun _ _ _ h => h) (Or.inl ⟨by rfl, ?_⟩) ?_ ?_
                      rotate_left
                      · intro w'
                        go_simp
                        with_reducible rfl
                      rotate_left
                      · simp only [Act.put, List.setIfInBounds_toArray, List.set_cons_zero, List.set_cons_succ, i64_w, i32_w]
                        rfl
                      refine pure_ (i := 2) (N := some 28) (v := ?_) (a' := ?_) #[false, true, true, false, false, false, false, false, false, false] rfl rfl (any_of HT_.out (by kernel_rfl)) (fun _ _ _ h => h) (Or.inl ⟨by rfl, ?_⟩) ?_ ?_
                      rotate_left
                      · intro w'
                        go_simp
                        with_reducible rfl
                      rotate_left
                      · simp only [Act.put, List.setIfInBounds_toArray, List.set_cons_zero, List.set_cons_succ, i64_w, i32_w]
                        rfl
                      refine pure_ (i := 3) (N := some 29) (v := ?_) (a' := ?_) #[false, true, true, true, false, false, false, false, false, false] rfl rfl (any_of HT_.out (by kernel_rfl)) (fun _ _ _ h => h) (Or.inl ⟨by rfl, ?_⟩) ?_ ?_
                      rotate_left
                      · intro w'
                        go_simp
                        with_reducible rfl
                      rotate_left
                      · simp only [Act.put, List.setIfInBounds_toArray, List.set_cons_zero, List.set_cons_succ, i64_w, i32_w]
                        rfl
                      refine pure_ (i := 5) (N := some 31) (v := ?_) (a' := ?_) #[false, true, true, true, false, true, false, false, false, false] rfl rfl (any_of HT_.out (by kernel_rfl)) (fun _ _ _ h => h) (Or.inl ⟨by rfl, ?_⟩) ?_ ?_
                      rotate_left
                      · intro w'
                        go_simp
                        with_reducible rfl
                      rotate_left
                      · simp only [Act.put, List.setIfInBounds_toArray, List.set_cons_zero, List.set_cons_succ, i64_w, i32_w]
                        rfl
                      refine pure_ (i := 6) (N := some 32) (v := ?_) (a' := ?_) #[false, true, true, true, false, true, true, false, false, false] rfl rfl (any_of HT_.out (by kernel_rfl)) (fun _ _ _ h => h) (Or.inl ⟨by rfl, ?_⟩) ?_ ?_
                      rotate_left
                      · intro w'
                        go_simp
                        with_reducible rfl
                      rotate_left
                      · simp only [Act.put, List.setIfInBounds_toArray, List.set_cons_zero, List.set_cons_succ, i64_w, i32_w]
                        rfl
                      refine pure_ (i := 7) (N := some 33) (v := ?_) (a' := ?_) #[false, true, true, true, false, true, true, true, false, false] rfl rfl (any_of HT_.out (by kernel_rfl)) (fun _ _ _ h => h) (Or.inl ⟨by rfl, ?_⟩) ?_ ?_
                      rotate_left
                      · intro w'
                        go_simp
                        with_reducible rfl
                      rotate_left
                      · simp only [Act.put, List.setIfInBounds_toArray, List.set_cons_zero, List.set_cons_succ, i64_w, i32_w]
                        rfl
                      refine one_ (i := 0) (N := some 26) #[true, true, true, true, false, true, true, true, false, false] rfl rfl (one_of HT_.out (by kernel_rfl)) (by decide) (fun K hK => ?_)
                      refine Kd.R_lit_step (Kd.int .u8) _ 5 ?hg (N := 26) ?hd (xs := ([] : List Int)) (inner := []) (ok := fun _ => True) (okp := fun _ => True) ?hr ?hp (fun _ hk => hk) trivial (Below.refl _ _) (Nat.le_refl _) (by simp) ?_; (case hd => rfl); (case hg => rfl); (case hr => first | (go_simp; done) | (go_simp; rfl)); (case hp => exact (Reps.none _ _))
                      intro v297 w26 ho27 hb hg_ hnew_
                      clear hg_ hnew_
                      (first | rw [← Ny296.out] at ho27 | (simp only [Int.reduceToNat] at ho27; rw [← Ny296.out] at ho27))
                      have n0_ := Aside0.mk (Kd.R_elder' (by (with_reducible repeat (first | apply Kd.R_alloc | apply Kd.R_drewN | apply Kd.R_drew)); exact HO292.out) (Kd.R_base ho27) hb)
                      have n1_ := Aside0.mk (Kd.R_elder' (by (with_reducible repeat (first | apply Kd.R_alloc | apply Kd.R_drewN | apply Kd.R_drew)); exact HO295.out) (Kd.R_base ho27) hb)
                      have n2_ := Aside0.mk (Kd.R_lower (Kd.R_new' (Kd.R_new' ho27 (Kd.R_lt (by (with_reducible repeat (first | apply Kd.R_alloc | apply Kd.R_drewN | apply Kd.R_drew)); exact HO292.out))) (Kd.R_lt (by (with_reducible repeat (first | apply Kd.R_alloc | apply Kd.R_drewN | apply Kd.R_drew)); exact HO295.out))) (below_size (by repeat (first | (with_reducible first | exact HB.out | apply below_alloc | apply pw_below_drewN | apply below_drew1) | exact HB.out))))
                      have n3_ := Aside0.mk (Kd.C_below (by repeat (first | (with_reducible exact HR302.out) | (with_reducible refine Kd.C_alloc ?_ _) | (with_reducible refine Kd.C_drewN ?_ _) | (with_reducible refine Kd.C_drew ?_) | exact HR302.out)) hb)
                      have n4_ := Aside0.mk (Kd.C_below (by repeat (first | (with_reducible exact HR309.out) | (with_reducible refine Kd.C_alloc ?_ _) | (with_reducible refine Kd.C_drewN ?_ _) | (with_reducible refine Kd.C_drew ?_) | exact HR309.out)) hb)
                      have n5_ := Aside0.mk (below_step (by repeat (first | (with_reducible first | exact HB.out | apply below_alloc | apply pw_below_drewN | apply below_drew1) | exact HB.out)) hb)
                      clear HO292
                      clear HO295
                      clear HR302
                      clear HR309
                      clear HB
                      have HO292 := n0_
                      have HO295 := n1_
                      have HO298 := n2_
                      have HR302 := n3_
                      have HR309 := n4_
                      have HB := n5_
                      clear n0_ n1_ n2_ n3_ n4_ n5_
                      clear hb ho27
                      refine hK.out _ _ trivial (fun hHeld => ?_)
                      clear hK K
                      refine norm_ (a' := ?_) ?_ ?_
                      rotate_left
                      · show Act.put _ (some 26) _ = _
                        simp only [Act.put, List.setIfInBounds_toArray, List.set_cons_zero, List.set_cons_succ, i64_w, i32_w]
                        rfl
                      refine one_ (i := 4) (N := some 30) #[true, true, true, true, true, true, true, true, false, false] rfl rfl (one_of HT_.out (by kernel_rfl)) (by decide) (fun K hK => ?_)
                      refine Kd.R_append_rows_step (Kd.int .u8) (w0 := w) w.heap.size (by rfl) (.tmp 26) (.tmp 29) 42 5 (.int .u8 0) 1 rfl Try.underlying42 info5 rfl (by decide) (by omega) v297 y296 y299 _ _ _ (fun k_ => some k_ ≠ (.slice Ao21 y290.length co21 : Value).ownBlock ∧ some k_ ≠ (.slice Ao22 y293.length co22 : Value).ownBlock) (fun _ => False) rfl rfl ?aO ?aR (fun _ _ h => h) (fun _ h => h.elim) ?aF ?aB ?aS ?aL ?_
                      (case aR => repeat (first | exact (by repeat (first | (with_reducible exact HR302.out) | (with_reducible refine Kd.C_alloc ?_ _) | (with_reducible refine Kd.C_drewN ?_ _) | (with_reducible refine Kd.C_drew ?_) | exact HR302.out)) | (with_reducible refine Kd.C_alloc ?_ _) | (with_reducible refine Kd.C_drewN ?_ _) | (with_reducible refine Kd.C_drew ?_)))
                      (case aB => exact (by repeat (first | (with_reducible first | exact HB.out | apply below_alloc | apply pw_below_drewN | apply below_drew1) | exact HB.out)))
                      (case aF => exact (fun k_ hk => ⟨Kd.fresh' (Kd.R_lt (by (with_reducible repeat (first | apply Kd.R_alloc | apply Kd.R_drewN | apply Kd.R_drew)); exact HO292.out)) k_ hk, Kd.fresh' (Kd.R_lt (by (with_reducible repeat (first | apply Kd.R_alloc | apply Kd.R_drewN | apply Kd.R_drew)); exact HO295.out)) k_ hk⟩))
                      (case aO => exact (by (with_reducible repeat (first | apply Kd.R_alloc | apply Kd.R_drewN | apply Kd.R_drew)); exact Kd.R_mono HO298.out (fun _ hk => ⟨hk.1.2, hk.2⟩)))
                      (case aS => exact (below_size (by repeat (first | (with_reducible first | exact HB.out | apply below_alloc | apply pw_below_drewN | apply below_drew1) | exact HB.out))))
                      (case aL => have := LMc13.out; omega)
                      intro v304 w28 ho hb hg hat
                      rw [← Ny303.out] at ho
                      have n0_ := Aside0.mk (Kd.R_after (ok := (fun k_ => some k_ ≠ (.slice Ao22 y293.length co22 : Value).ownBlock)) (by (with_reducible repeat (first | apply Kd.R_alloc | apply Kd.R_drewN | apply Kd.R_drew)); exact Kd.R_mono HO292.out (fun _ hk => ⟨hk.1.2, hk.2⟩)) hg hat)
                      have n1_ := Aside0.mk (Kd.R_after (ok := (fun k_ => some k_ ≠ (.slice Ao21 y290.length co21 : Value).ownBlock)) (by (with_reducible repeat (first | apply Kd.R_alloc | apply Kd.R_drewN | apply Kd.R_drew)); exact Kd.R_mono HO295.out (fun _ hk => ⟨hk.1.2, hk.2⟩)) hg hat)
                      have n2_ := Aside0.mk (hb)
                      have n3_ := Aside0.mk ((show Kd.C (Kd.int .u8) w28 Ao22 y299.length y299 from by rw [Ny299.out]; exact Kd.C_take (m := ((ji10) : Int).toNat) ((Kd.R_reads' (Kd.R_after (ok := (fun k_ => some k_ ≠ (.slice Ao21 y290.length co21 : Value).ownBlock)) (by (with_reducible repeat (first | apply Kd.R_alloc | apply Kd.R_drewN | apply Kd.R_drew)); exact Kd.R_mono HO295.out (fun _ hk => ⟨hk.1.2, hk.2⟩)) hg hat)).2.2) KL24.out))
                      have n4_ := Aside0.mk ((show Kd.C (Kd.int .u8) w28 A25 y306.length y306 from by rw [Ny306.out, KA25.out]; exact Kd.C_drop (m := ((ji10) : Int).toNat) (c := co21) ((Kd.R_reads' (Kd.R_after (ok := (fun k_ => some k_ ≠ (.slice Ao22 y293.length co22 : Value).ownBlock)) (by (with_reducible repeat (first | apply Kd.R_alloc | apply Kd.R_drewN | apply Kd.R_drew)); exact Kd.R_mono HO292.out (fun _ hk => ⟨hk.1.2, hk.2⟩)) hg hat)).2.2) KL25.out ((Kd.R_reads' (Kd.R_after (ok := (fun k_ => some k_ ≠ (.slice Ao22 y293.length co22 : Value).ownBlock)) (by (with_reducible repeat (first | apply Kd.R_alloc | apply Kd.R_drewN | apply Kd.R_drew)); exact Kd.R_mono HO292.out (fun _ hk => ⟨hk.1.2, hk.2⟩)) hg hat)).2.1)))
                      have n5_ := Aside0.mk (ho)
                      clear HO292
                      clear HO295
                      clear HB
                      clear HR302
                      clear HR309
                      clear HO298
                      have HO292 := n0_
                      have HO295 := n1_
                      have HB := n2_
                      have HR302 := n3_
                      have HR309 := n4_
                      have HO305 := n5_
                      clear n0_ n1_ n2_ n3_ n4_ n5_
                      clear ho hb hg hat
                      refine hK.out _ _ trivial (fun hHeld => ?_)
                      clear hK K
                      refine norm_ (a' := ?_) ?_ ?_
                      rotate_left
                      · show Act.put _ (some 30) _ = _
                        simp only [Act.put, List.setIfInBounds_toArray, List.set_cons_zero, List.set_cons_succ, i64_w, i32_w]
                        rfl
                      refine one_ (i := 8) (N := some 34) #[true, true, true, true, true, true, true, true, true, false] rfl rfl (one_of HT_.out (by kernel_rfl)) (by decide) (fun K hK => ?_)
                      refine Kd.R_append_rows_step (Kd.int .u8) (w0 := w) w.heap.size (by rfl) (.tmp 30) (.tmp 33) 42 5 (.int .u8 0) 1 rfl Try.underlying42 info5 rfl (by decide) (by omega) v304 y303 y306 _ _ _ (fun k_ => some k_ ≠ (.slice Ao21 y290.length co21 : Value).ownBlock ∧ some k_ ≠ (.slice Ao22 y293.length co22 : Value).ownBlock) (fun _ => False) rfl rfl ?aO ?aR (fun _ _ h => h) (fun _ h => h.elim) ?aF ?aB ?aS ?aL ?_
                      (case aR => repeat (first | exact (by repeat (first | (with_reducible exact HR309.out) | (with_reducible refine Kd.C_alloc ?_ _) | (with_reducible refine Kd.C_drewN ?_ _) | (with_reducible refine Kd.C_drew ?_) | exact HR309.out)) | (with_reducible refine Kd.C_alloc ?_ _) | (with_reducible refine Kd.C_drewN ?_ _) | (with_reducible refine Kd.C_drew ?_)))
                      (case aB => exact (by repeat (first | (with_reducible first | exact HB.out | apply below_alloc | apply pw_below_drewN | apply below_drew1) | exact HB.out)))
                      (case aF => exact (fun k_ hk => ⟨Kd.fresh' (Kd.R_lt (by (with_reducible repeat (first | apply Kd.R_alloc | apply Kd.R_drewN | apply Kd.R_drew)); exact HO292.out)) k_ hk, Kd.fresh' (Kd.R_lt (by (with_reducible repeat (first | apply Kd.R_alloc | apply Kd.R_drewN | apply Kd.R_drew)); exact HO295.out)) k_ hk⟩))
                      (case aO => exact (by (with_reducible repeat (first | apply Kd.R_alloc | apply Kd.R_drewN | apply Kd.R_drew)); exact HO305.out))
                      (case aS => exact (below_size (by repeat (first | (with_reducible first | exact HB.out | apply below_alloc | apply pw_below_drewN | apply below_drew1) | exact HB.out))))
                      (case aL => have := LMc16.out; omega)
                      intro v311 w29 ho hb hg hat
                      rw [← Ny310.out] at ho
                      have n0_ := Aside0.mk (Kd.R_after (ok := (fun k_ => some k_ ≠ (.slice Ao22 y293.length co22 : Value).ownBlock)) (by (with_reducible repeat (first | apply Kd.R_alloc | apply Kd.R_drewN | apply Kd.R_drew)); exact HO292.out) hg hat)
                      have n1_ := Aside0.mk (Kd.R_after (ok := (fun k_ => some k_ ≠ (.slice Ao21 y290.length co21 : Value).ownBlock)) (by (with_reducible repeat (first | apply Kd.R_alloc | apply Kd.R_drewN | apply Kd.R_drew)); exact HO295.out) hg hat)
                      have n2_ := Aside0.mk (hb)
                      have n3_ := Aside0.mk ((show Kd.C (Kd.int .u8) w29 Ao22 y299.length y299 from by rw [Ny299.out]; exact Kd.C_take (m := ((ji10) : Int).toNat) ((Kd.R_reads' (Kd.R_after (ok := (fun k_ => some k_ ≠ (.slice Ao21 y290.length co21 : Value).ownBlock)) (by (with_reducible repeat (first | apply Kd.R_alloc | apply Kd.R_drewN | apply Kd.R_drew)); exact HO295.out) hg hat)).2.2) KL24.out))
                      have n4_ := Aside0.mk ((show Kd.C (Kd.int .u8) w29 A25 y306.length y306 from by rw [Ny306.out, KA25.out]; exact Kd.C_drop (m := ((ji10) : Int).toNat) (c := co21) ((Kd.R_reads' (Kd.R_after (ok := (fun k_ => some k_ ≠ (.slice Ao22 y293.length co22 : Value).ownBlock)) (by (with_reducible repeat (first | apply Kd.R_alloc | apply Kd.R_drewN | apply Kd.R_drew)); exact HO292.out) hg hat)).2.2) KL25.out ((Kd.R_reads' (Kd.R_after (ok := (fun k_ => some k_ ≠ (.slice Ao22 y293.length co22 : Value).ownBlock)) (by (with_reducible repeat (first | apply Kd.R_alloc | apply Kd.R_drewN | apply Kd.R_drew)); exact HO292.out) hg hat)).2.1)))
                      have n5_ := Aside0.mk (ho)
                      clear HO292
                      clear HO295
                      clear HB
                      clear HR302
                      clear HR309
                      clear HO305
                      have HO292 := n0_
                      have HO295 := n1_
                      have HB := n2_
                      have HR302 := n3_
                      have HR309 := n4_
                      have HO312 := n5_
                      clear n0_ n1_ n2_ n3_ n4_ n5_
                      clear ho hb hg hat
                      refine hK.out _ _ trivial (fun hHeld => ?_)
                      clear hK K
                      refine norm_ (a' := ?_) ?_ ?_
                      rotate_left
                      · show Act.put _ (some 34) _ = _
                        simp only [Act.put, List.setIfInBounds_toArray, List.set_cons_zero, List.set_cons_succ, i64_w, i32_w]
                        rfl
                      refine pure_ (i := 9) (N := some 6) (v := ?_) (a' := ?_) #[true, true, true, true, true, true, true, true, true, true] rfl rfl (any_of HT_.out (by kernel_rfl)) (fun _ _ _ h => h) (Or.inl ⟨by rfl, ?_⟩) ?_ ?_
                      rotate_left
                      · intro w'
                        go_simp
                        with_reducible rfl
                      rotate_left
                      · simp only [Act.put, List.setIfInBounds_toArray, List.set_cons_zero, List.set_cons_succ, i64_w, i32_w]
                        rfl
                      refine done_ (done_of HT_.out (by kernel_rfl)) ?_
                      try go_wp2
                      go_ret
                      exact ⟨_, by first | rfl | (simp [errW_none, errW_some] <;> rfl) | (simp only [← hji9, ← hji10]; first | rfl | (simp [errW_none, errW_some] <;> rfl)) | (simp [*, errW_none, errW_some] <;> rfl), by (with_reducible repeat (first | apply Kd.R_alloc | apply Kd.R_drewN | apply Kd.R_drew)); exact Kd.R_mono HO312.out (fun _ hk => trivial), by repeat (first | (with_reducible first | exact HB.out | apply below_alloc | apply pw_below_drewN | apply below_drew1) | exact HB.out)⟩
                    · rw [if_neg c16] at H
                      exact absurd H (by simp)
                  · rw [if_neg c15] at H
                    exact absurd H (by simp)
                · rw [if_neg c13] at H
                  exact absurd H (by simp)
              · rw [if_neg c12] at H
                exact absurd H (by simp)
            · rw [if_neg c11] at H
              exact absurd H (by simp)
          · rw [if_neg c8] at H
            have c8b0 : ((y293.length : Int) == 512) = false := beq_eq_false_iff_ne.mpr c8
            have c8b1 : ((y293.length : Int) != 512) = true := bne_iff_ne.mpr c8
            obtain rfl := Option.some.inj H
            go_enter Try.func75, Try.ntmps75
            go_wp2_with (first | ((with_reducible refine gate_dst (N := 10) rfl ?_); (try (refine gate_guard (by rfl) ?_; dsimp only)); refine Kd.R_make (Kd.int .u8) _ 5 rfl (N := 10) rfl 42 _ _ rfl 512 rfl rfl Try.underlying42 (.int .u8 0) 1 info5 rfl (by decide) (by omega) 0 (ok := fun _ => True) (okp := fun _ => True) rfl (fun _ hk => hk) trivial (by omega) (by omega) (Below.refl _ _) (Nat.le_refl _) ?_; intro v291 w30 ho31 hb hg_ hnew_; clear hg_ hnew_; (first | rw [← Ny290.out] at ho31 | (simp only [Int.reduceToNat] at ho31; rw [← Ny290.out] at ho31)); have n0_ := Aside0.mk (Kd.R_lower ho31 (below_size (by repeat (first | (with_reducible first | exact HB.out | apply below_alloc | apply pw_below_drewN | apply below_drew1) | exact HB.out)))); have n1_ := Aside0.mk (below_step (by repeat (first | (with_reducible first | exact HB.out | apply below_alloc | apply pw_below_drewN | apply below_drew1) | exact HB.out)) hb); clear HB; have HO292 := n0_; have HB := n1_; clear n0_ n1_; clear hb ho31) | ((with_reducible refine gate_dst (N := 14) rfl ?_); (try (refine gate_guard (by rfl) ?_; dsimp only)); refine Kd.R_make (Kd.int .u8) _ 5 rfl (N := 14) rfl 42 _ _ rfl 512 rfl rfl Try.underlying42 (.int .u8 0) 1 info5 rfl (by decide) (by omega) 0 (ok := fun _ => True) (okp := fun _ => True) rfl (fun _ hk => hk) trivial (by omega) (by omega) (Below.refl _ _) (Nat.le_refl _) ?_; intro v294 w32 ho33 hb hg_ hnew_; clear hg_ hnew_; (first | rw [← Ny293.out] at ho33 | (simp only [Int.reduceToNat] at ho33; rw [← Ny293.out] at ho33)); have n0_ := Aside0.mk (Kd.R_elder' (by (with_reducible repeat (first | apply Kd.R_alloc | apply Kd.R_drewN | apply Kd.R_drew)); exact HO292.out) (Kd.R_base ho33) hb); have n1_ := Aside0.mk (Kd.R_lower (Kd.R_new' ho33 (Kd.R_lt (by (with_reducible repeat (first | apply Kd.R_alloc | apply Kd.R_drewN | apply Kd.R_drew)); exact HO292.out))) (below_size (by repeat (first | (with_reducible first | exact HB.out | apply below_alloc | apply pw_below_drewN | apply below_drew1) | exact HB.out)))); have n2_ := Aside0.mk (below_step (by repeat (first | (with_reducible first | exact HB.out | apply below_alloc | apply pw_below_drewN | apply below_drew1) | exact HB.out)) hb); clear HO292; clear HB; have HO292 := n0_; have HO295 := n1_; have HB := n2_; clear n0_ n1_ n2_; clear hb ho33; obtain ⟨Ao34, co34, eo34⟩ := Kd.R_slice HO292.out; subst eo34; obtain ⟨Ao35, co35, eo35⟩ := Kd.R_slice HO295.out; subst eo35))
            go_ret
            exact ⟨_, by first | rfl | (simp [errW_none, errW_some] <;> rfl) | (simp [*, errW_none, errW_some] <;> rfl), by first | exact Kd.R_nil _ _ _ _ _ | exact Kd.N_nil _ _ _ _ _ | exact Kd.V_nil _ _ _ _ _ | exact Kd.Q_nil _ _ _ _ _ | exact Kd.S_nil _ _ _ _ _, by repeat (first | (with_reducible first | exact HB.out | apply below_alloc | apply pw_below_drewN | apply below_drew1) | exact HB.out)⟩
        · rw [if_neg c7] at H
          have c7b0 : ((y290.length : Int) == 512) = false := beq_eq_false_iff_ne.mpr c7
          have c7b1 : ((y290.length : Int) != 512) = true := bne_iff_ne.mpr c7
          obtain rfl := Option.some.inj H
          go_enter Try.func75, Try.ntmps75
          go_wp2_with (first | ((with_reducible refine gate_dst (N := 10) rfl ?_); (try (refine gate_guard (by rfl) ?_; dsimp only)); refine Kd.R_make (Kd.int .u8) _ 5 rfl (N := 10) rfl 42 _ _ rfl 512 rfl rfl Try.underlying42 (.int .u8 0) 1 info5 rfl (by decide) (by omega) 0 (ok := fun _ => True) (okp := fun _ => True) rfl (fun _ hk => hk) trivial (by omega) (by omega) (Below.refl _ _) (Nat.le_refl _) ?_; intro v291 w36 ho37 hb hg_ hnew_; clear hg_ hnew_; (first | rw [← Ny290.out] at ho37 | (simp only [Int.reduceToNat] at ho37; rw [← Ny290.out] at ho37)); have n0_ := Aside0.mk (Kd.R_lower ho37 (below_size (by repeat (first | (with_reducible first | exact HB.out | apply below_alloc | apply pw_below_drewN | apply below_drew1) | exact HB.out)))); have n1_ := Aside0.mk (below_step (by repeat (first | (with_reducible first | exact HB.out | apply below_alloc | apply pw_below_drewN | apply below_drew1) | exact HB.out)) hb); clear HB; have HO292 := n0_; have HB := n1_; clear n0_ n1_; clear hb ho37) | ((with_reducible refine gate_dst (N := 14) rfl ?_); (try (refine gate_guard (by rfl) ?_; dsimp only)); refine Kd.R_make (Kd.int .u8) _ 5 rfl (N := 14) rfl 42 _ _ rfl 512 rfl rfl Try.underlying42 (.int .u8 0) 1 info5 rfl (by decide) (by omega) 0 (ok := fun _ => True) (okp := fun _ => True) rfl (fun _ hk => hk) trivial (by omega) (by omega) (Below.refl _ _) (Nat.le_refl _) ?_; intro v294 w38 ho39 hb hg_ hnew_; clear hg_ hnew_; (first | rw [← Ny293.out] at ho39 | (simp only [Int.reduceToNat] at ho39; rw [← Ny293.out] at ho39)); have n0_ := Aside0.mk (Kd.R_elder' (by (with_reducible repeat (first | apply Kd.R_alloc | apply Kd.R_drewN | apply Kd.R_drew)); exact HO292.out) (Kd.R_base ho39) hb); have n1_ := Aside0.mk (Kd.R_lower (Kd.R_new' ho39 (Kd.R_lt (by (with_reducible repeat (first | apply Kd.R_alloc | apply Kd.R_drewN | apply Kd.R_drew)); exact HO292.out))) (below_size (by repeat (first | (with_reducible first | exact HB.out | apply below_alloc | apply pw_below_drewN | apply below_drew1) | exact HB.out)))); have n2_ := Aside0.mk (below_step (by repeat (first | (with_reducible first | exact HB.out | apply below_alloc | apply pw_below_drewN | apply below_drew1) | exact HB.out)) hb); clear HO292; clear HB; have HO292 := n0_; have HO295 := n1_; have HB := n2_; clear n0_ n1_ n2_; clear hb ho39; obtain ⟨Ao40, co40, eo40⟩ := Kd.R_slice HO292.out; subst eo40))
          go_ret
          exact ⟨_, by first | rfl | (simp [errW_none, errW_some] <;> rfl) | (simp [*, errW_none, errW_some] <;> rfl), by first | exact Kd.R_nil _ _ _ _ _ | exact Kd.N_nil _ _ _ _ _ | exact Kd.V_nil _ _ _ _ _ | exact Kd.Q_nil _ _ _ _ _ | exact Kd.S_nil _ _ _ _ _, by repeat (first | (with_reducible first | exact HB.out | apply below_alloc | apply pw_below_drewN | apply below_drew1) | exact HB.out)⟩
      · rw [if_neg c6] at H
        have c6b0 : ((l1.length : Int) == 0) = false := beq_eq_false_iff_ne.mpr c6
        have c6b1 : ((l1.length : Int) != 0) = true := bne_iff_ne.mpr c6
        have c6b2 : ¬ (l1 = []) := fun h_ => c6 (by rw [h_]; rfl)
        by_cases c41 : (y290.length : Int) = 512
        · rw [if_pos c41] at H
          have c41b0 : ((y290.length : Int) == 512) = true := beq_iff_eq.mpr c41
          have c41b1 : ((y290.length : Int) != 512) = false := bne_eq_false_iff_eq.mpr c41
          clear c41
          by_cases c42 : (l1.length : Int) = 512
          · rw [if_pos c42] at H
            have c42b0 : ((l1.length : Int) == 512) = true := beq_iff_eq.mpr c42
            have c42b1 : ((l1.length : Int) != 512) = false := bne_eq_false_iff_eq.mpr c42
            clear c42
            obtain ⟨ji43, hji43⟩ : ∃ j_ : Int, (mn a2 512) = j_ := ⟨_, rfl⟩
            replace H : ((some (([] : List Int) : List Int)).bind fun y313 => (if 0 ≤ (mx 0 (ji43)) then (if (mx 0 (ji43)) ≤ (l1.length : Int) then (if y313.length + (l1.take ((mx 0 (ji43)) : Int).toNat).length < 140737488355328 then ((some (y313 ++ (l1.take ((mx 0 (ji43)) : Int).toNat) : List Int)).bind fun y317 => (if (mx 0 (ji43)) ≤ (y290.length : Int) then ((some (y290.drop ((mx 0 (ji43)) : Int).toNat : List Int)).bind fun y320 => (if y317.length + y320.length < 140737488355328 then (some (y317 ++ y320)) else (none))) else (none))) else (none)) else (none)) else (none))) = some r := by first | (rw [hji43] at H; exact H) | (simp only [hji43] at H ⊢; exact H)
            (try (have hji43h : ji43 ≤ 512 := by (rw [← hji43]; unfold mn; (repeat' split) <;> omega)))
            (try (have hji43g : ji43 ≤ 64 := by omega))
            have hji43_ : (if 512 < a2 then 512 else a2) = ji43 := hji43
            obtain ⟨ji44, hji44⟩ : ∃ j_ : Int, (mx 0 (ji43)) = j_ := ⟨_, rfl⟩
            replace H : ((some (([] : List Int) : List Int)).bind fun y313 => (if 0 ≤ (ji44) then (if (ji44) ≤ (l1.length : Int) then (if y313.length + (l1.take ((ji44) : Int).toNat).length < 140737488355328 then ((some (y313 ++ (l1.take ((ji44) : Int).toNat) : List Int)).bind fun y317 => (if (ji44) ≤ (y290.length : Int) then ((some (y290.drop ((ji44) : Int).toNat : List Int)).bind fun y320 => (if y317.length + y320.length < 140737488355328 then (some (y317 ++ y320)) else (none))) else (none))) else (none)) else (none)) else (none))) = some r := by first | (rw [hji44] at H; exact H) | (simp only [hji44] at H ⊢; exact H)
            have hji44_ : (if 0 < (ji43) then (ji43) else 0) = ji44 := hji44
            obtain ⟨y313, hy313⟩ : ∃ y_ : List Int, y_ = (([] : List Int)) := ⟨_, rfl⟩
            replace H : (if 0 ≤ (ji44) then (if (ji44) ≤ (l1.length : Int) then (if y313.length + (l1.take ((ji44) : Int).toNat).length < 140737488355328 then ((some (y313 ++ (l1.take ((ji44) : Int).toNat) : List Int)).bind fun y317 => (if (ji44) ≤ (y290.length : Int) then ((some (y290.drop ((ji44) : Int).toNat : List Int)).bind fun y320 => (if y317.length + y320.length < 140737488355328 then (some (y317 ++ y320)) else (none))) else (none))) else (none)) else (none)) else (none)) = some r := by first | (rw [hy313]; with_reducible exact H) | (have H2_ := (Option.bind_some _ _).symm.trans H; rw [hy313]; with_reducible exact H2_) | (have H2_ := (Option.bind_some _ _).symm.trans H; with_reducible exact H2_) | with_reducible exact H | (rw [hy313]; exact H) | exact H
            have Ny313 := Aside0.mk hy313
            clear hy313
            by_cases c45 : 0 ≤ (ji44)
            · rw [if_pos c45] at H
              have c45b0 := eq_true c45
              have c45b1 : decide (0 ≤ (ji44)) = true := decide_eq_true c45
              clear c45
              by_cases c46 : (ji44) ≤ (l1.length : Int)
              · rw [if_pos c46] at H
                have c46b0 := eq_true c46
                have c46b1 : decide ((ji44) ≤ (l1.length : Int)) = true := decide_eq_true c46
                clear c46
                by_cases c47 : y313.length + (l1.take ((ji44) : Int).toNat).length < 140737488355328
                · rw [if_pos c47] at H
                  have LMc47 := Aside0.mk c47
                  clear c47
                  obtain ⟨y317, hy317⟩ : ∃ y_ : List Int, y_ = (y313 ++ (l1.take ((ji44) : Int).toNat)) := ⟨_, rfl⟩
                  replace H : (if (ji44) ≤ (y290.length : Int) then ((some (y290.drop ((ji44) : Int).toNat : List Int)).bind fun y320 => (if y317.length + y320.length < 140737488355328 then (some (y317 ++ y320)) else (none))) else (none)) = some r := by first | (rw [hy317]; with_reducible exact H) | (have H2_ := (Option.bind_some _ _).symm.trans H; rw [hy317]; with_reducible exact H2_) | (have H2_ := (Option.bind_some _ _).symm.trans H; with_reducible exact H2_) | with_reducible exact H | (rw [hy317]; exact H) | exact H
                  have Ny317 := Aside0.mk hy317
                  clear hy317
                  have c48b0 := eq_true (of_decide_eq_true (by first | (with_reducible assumption) | assumption) : 0 ≤ (ji44))
                  by_cases c49 : (ji44) ≤ (y290.length : Int)
                  · rw [if_pos c49] at H
                    have c49b0 := eq_true c49
                    have c49b1 : decide ((ji44) ≤ (y290.length : Int)) = true := decide_eq_true c49
                    clear c49
                    obtain ⟨y320, hy320⟩ : ∃ y_ : List Int, y_ = (y290.drop ((ji44) : Int).toNat) := ⟨_, rfl⟩
                    replace H : (if y317.length + y320.length < 140737488355328 then (some (y317 ++ y320)) else (none)) = some r := by first | (rw [hy320]; with_reducible exact H) | (have H2_ := (Option.bind_some _ _).symm.trans H; rw [hy320]; with_reducible exact H2_) | (have H2_ := (Option.bind_some _ _).symm.trans H; with_reducible exact H2_) | with_reducible exact H | (rw [hy320]; exact H) | exact H
                    have Ny320 := Aside0.mk hy320
                    clear hy320
                    by_cases c50 : y317.length + y320.length < 140737488355328
                    · rw [if_pos c50] at H
                      have LMc50 := Aside0.mk c50
                      clear c50
                      obtain ⟨y324, hy324⟩ : ∃ y_ : List Int, y_ = (y317 ++ y320) := ⟨_, rfl⟩
                      replace H : (some y324) = some r := by first | (rw [hy324]; with_reducible exact H) | (have H2_ := (Option.bind_some _ _).symm.trans H; rw [hy324]; with_reducible exact H2_) | (have H2_ := (Option.bind_some _ _).symm.trans H; with_reducible exact H2_) | with_reducible exact H | (rw [hy324]; exact H) | exact H
                      have Ny324 := Aside0.mk hy324
                      clear hy324
                      obtain rfl := Option.some.inj H
                      go_enter Try.func75, Try.ntmps75
                      try go_wp2_with (first | ((with_reducible refine gate_dst (N := 10) rfl ?_); (try (refine gate_guard (by rfl) ?_; dsimp only)); refine Kd.R_make (Kd.int .u8) _ 5 rfl (N := 10) rfl 42 _ _ rfl 512 rfl rfl Try.underlying42 (.int .u8 0) 1 info5 rfl (by decide) (by omega) 0 (ok := fun _ => True) (okp := fun _ => True) rfl (fun _ hk => hk) trivial (by omega) (by omega) (Below.refl _ _) (Nat.le_refl _) ?_; intro v291 w51 ho52 hb hg_ hnew_; clear hg_ hnew_; (first | rw [← Ny290.out] at ho52 | (simp only [Int.reduceToNat] at ho52; rw [← Ny290.out] at ho52)); have n0_ := Aside0.mk (Kd.R_lower ho52 (below_size (by repeat (first | (with_reducible first | exact HB.out | apply below_alloc | apply pw_below_drewN | apply below_drew1) | exact HB.out)))); have n1_ := Aside0.mk (below_step (by repeat (first | (with_reducible first | exact HB.out | apply below_alloc | apply pw_below_drewN | apply below_drew1) | exact HB.out)) hb); clear HB; have HO292 := n0_; have HB := n1_; clear n0_ n1_; clear hb ho52; obtain ⟨Ao53, co53, eo53⟩ := Kd.R_slice HO292.out; subst eo53))
                      have n0_ := Aside0.mk (Kd.R_drew HO292.out)
                      have n1_ := Aside0.mk (below_drew1 HB.out)
                      clear HO292
                      clear HB
                      have HO292 := n0_
                      have HB := n1_
                      clear n0_ n1_
                      obtain ⟨i055, hi055, _, hsz55, _⟩ := info_parts info5
                      obtain ⟨hcut55, hA55, hC55⟩ := print_take_of (P := Try.prog) (Value.int .u8) 0 42 5 .i64 Try.underlying42 hi055 hsz55 A1 c1 l1 (ji44) (of_decide_eq_true (by first | (with_reducible assumption) | assumption)) (of_decide_eq_true (by first | (with_reducible assumption) | assumption)) HC1.out
                      have HR316 := Aside0.mk (Kd.C_of_reads (h1 := fun _ => rfl) (hA55 _ (Kd.reads_of_C HR1.out)))
                      have HC316 := Aside0.mk hC55
                      clear hA55 hC55 hi055 hsz55
                      have q56 : ((ji44) : Int) ≤ ((y290.length : Int) : Int) := of_decide_eq_true (by first | (with_reducible assumption) | assumption)
                      obtain ⟨i056, hi056, _, hsz56, _⟩ := info_parts info5
                      have hroom56 : y290.length ≤ co53 := (Kd.R_reads' HO292.out).2.1
                      have hC56 : Kd.C (Kd.int .u8) _ Ao53 y290.length y290 := (Kd.R_reads' HO292.out).2.2
                      have q056 : (0 : Int) ≤ ((ji44) : Int) := of_decide_eq_true (by first | (with_reducible assumption) | assumption)
                      have hcut56 := cut_from (P := Try.prog) 42 5 .i64 Try.underlying42 hi056 1 hsz56 Ao53 y290.length co53 (ji44) q056 q56
                      have hr56 := Kd.C_drop (m := ((ji44) : Int).toNat) (c := co53) hC56 (by omega) hroom56
                      obtain ⟨A56, hA56⟩ : ∃ A1, A1 = (if co53 = ((ji44) : Int).toNat then Ao53 else (Ao53 : Option Addr).map (·.add (((ji44) : Int).toNat * 1))) := ⟨_, rfl⟩
                      obtain ⟨c56, hc56⟩ : ∃ c1, c1 = co53 - ((ji44) : Int).toNat := ⟨_, rfl⟩
                      have hy56 : y320.length = y290.length - ((ji44) : Int).toNat := (by rw [Ny320.out, List.length_drop] <;> omega)
                      rw [show (y290).drop ((ji44) : Int).toNat = y320 from Ny320.out.symm] at hr56
                      replace hr56 : Kd.C (Kd.int .u8) _ A56 y320.length y320 := (by rw [hA56]; exact hr56)
                      rw [← hy56, ← hA56, ← hc56] at hcut56
                      have HR323 := Aside0.mk hr56
                      have HC323 := Aside0.mk (show y320.length ≤ c56 from by rw [hy56, hc56]; exact Nat.sub_le_sub_right hroom56 _)
                      clear hr56 hC56 hroom56 hi056 hsz56 hc56
                      have KY56 := Aside0.mk hy56
                      have KA56 := Aside0.mk hA56
                      clear hy56 hA56
                      have KL56 := Aside0.mk (show ((ji44) : Int).toNat ≤ y290.length from by omega)
                      replace q56 := eq_true q56
                      refine start_ (n := 10) (S := fun w' => True) (ds := []) #[false, false, false, false, false, false, false, false, false, false] (by kernel_rfl) rfl rfl trivial (fun hHeld => ?_); refine with_tabW impl_Tear.tab8 impl_Tear.bits8 (fun HT_ HW_ => ?_)
                      generalize w51.drew = w54 at HO292 HB HR316 HR323 hHeld ⊢
                      refine pure_ (i := 1) (N := some 27) (v := ?_) (a' := ?_) #[false, true, false, false, false, false, false, false, false, false] rfl rfl (any_of HT_.out (by kernel_rfl)) (fun _ _ _ h => h) (Or.inl ⟨by rfl, ?_⟩) ?_ ?_
                      rotate_left
                      · intro w'
                        go_simp
                        with_reducible rfl
                      rotate_left
                      · simp only [Act.put, List.setIfInBounds_toArray, List.set_cons_zero, List.set_cons_succ, i64_w, i32_w]
                        rfl
                      refine pure_ (i := 2) (N := some 28) (v := ?_) (a' := ?_) #[false, true, true, false, false, false, false, false, false, false] rfl rfl (any_of HT_.out (by kernel_rfl)) (fun _ _ _ h => h) (Or.inl ⟨by rfl, ?_⟩) ?_ ?_
                      rotate_left
                      · intro w'
                        go_simp
                        with_reducible rfl
                      rotate_left
                      · simp only [Act.put, List.setIfInBounds_toArray, List.set_cons_zero, List.set_cons_succ, i64_w, i32_w]
                        rfl
                      refine pure_ (i := 3) (N := some 29) (v := ?_) (a' := ?_) #[false, true, true, true, false, false, false, false, false, false] rfl rfl (any_of HT_.out (by kernel_rfl)) (fun _ _ _ h => h) (Or.inl ⟨by rfl, ?_⟩) ?_ ?_
                      rotate_left
                      · intro w'
                        go_simp
                        with_reducible rfl
                      rotate_left
                      · simp only [Act.put, List.setIfInBounds_toArray, List.set_cons_zero, List.set_cons_succ, i64_w, i32_w]
                        rfl
                      refine pure_ (i := 5) (N := some 31) (v := ?_) (a' := ?_) #[false, true, true, true, false, true, false, false, false, false] rfl rfl (any_of HT_.out (by kernel_rfl)) (fun _ _ _ h => h) (Or.inl ⟨by rfl, ?_⟩) ?_ ?_
                      rotate_left
                      · intro w'
                        go_simp
                        with_reducible rfl
                      rotate_left
                      · simp only [Act.put, List.setIfInBounds_toArray, List.set_cons_zero, List.set_cons_succ, i64_w, i32_w]
                        rfl
                      refine pure_ (i := 6) (N := some 32) (v := ?_) (a' := ?_) #[false, true, true, true, false, true, true, false, false, false] rfl rfl (any_of HT_.out (by kernel_rfl)) (fun _ _ _ h => h) (Or.inl ⟨by rfl, ?_⟩) ?_ ?_
                      rotate_left
                      · intro w'
                        go_simp
                        with_reducible rfl
                      rotate_left
                      · simp only [Act.put, List.setIfInBounds_toArray, List.set_cons_zero, List.set_cons_succ, i64_w, i32_w]
                        rfl
                      refine pure_ (i := 7) (N := some 33) (v := ?_) (a' := ?_) #[false, true, true, true, false, true, true, true, false, false] rfl rfl (any_of HT_.out (by kernel_rfl)) (fun _ _ _ h => h) (Or.inl ⟨by rfl, ?_⟩) ?_ ?_
                      rotate_left
                      · intro w'
                        go_simp
                        with_reducible rfl
                      rotate_left
                      · simp only [Act.put, List.setIfInBounds_toArray, List.set_cons_zero, List.set_cons_succ, i64_w, i32_w]
                        rfl
                      refine one_ (i := 0) (N := some 26) #[true, true, true, true, false, true, true, true, false, false] rfl rfl (one_of HT_.out (by kernel_rfl)) (by decide) (fun K hK => ?_)
                      refine Kd.R_lit_step (Kd.int .u8) _ 5 ?hg (N := 26) ?hd (xs := ([] : List Int)) (inner := []) (ok := fun _ => True) (okp := fun _ => True) ?hr ?hp (fun _ hk => hk) trivial (Below.refl _ _) (Nat.le_refl _) (by simp) ?_; (case hd => rfl); (case hg => rfl); (case hr => first | (go_simp; done) | (go_simp; rfl)); (case hp => exact (Reps.none _ _))
                      intro v314 w57 ho58 hb hg_ hnew_
                      clear hg_ hnew_
                      (first | rw [← Ny313.out] at ho58 | (simp only [Int.reduceToNat] at ho58; rw [← Ny313.out] at ho58))
                      have n0_ := Aside0.mk (Kd.R_elder' (by (with_reducible repeat (first | apply Kd.R_alloc | apply Kd.R_drewN | apply Kd.R_drew)); exact HO292.out) (Kd.R_base ho58) hb)
                      have n1_ := Aside0.mk (Kd.R_lower (Kd.R_new' ho58 (Kd.R_lt (by (with_reducible repeat (first | apply Kd.R_alloc | apply Kd.R_drewN | apply Kd.R_drew)); exact HO292.out))) (below_size (by repeat (first | (with_reducible first | exact HB.out | apply below_alloc | apply pw_below_drewN | apply below_drew1) | exact HB.out))))
                      have n2_ := Aside0.mk (Kd.C_below (by repeat (first | (with_reducible exact HR323.out) | (with_reducible refine Kd.C_alloc ?_ _) | (with_reducible refine Kd.C_drewN ?_ _) | (with_reducible refine Kd.C_drew ?_) | exact HR323.out)) hb)
                      have n3_ := Aside0.mk (below_step (by repeat (first | (with_reducible first | exact HB.out | apply below_alloc | apply pw_below_drewN | apply below_drew1) | exact HB.out)) hb)
                      clear HO292
                      clear HR323
                      clear HB
                      have HO292 := n0_
                      have HO315 := n1_
                      have HR323 := n2_
                      have HB := n3_
                      clear n0_ n1_ n2_ n3_
                      clear hb ho58
                      refine hK.out _ _ trivial (fun hHeld => ?_)
                      clear hK K
                      refine norm_ (a' := ?_) ?_ ?_
                      rotate_left
                      · show Act.put _ (some 26) _ = _
                        simp only [Act.put, List.setIfInBounds_toArray, List.set_cons_zero, List.set_cons_succ, i64_w, i32_w]
                        rfl
                      refine one_ (i := 4) (N := some 30) #[true, true, true, true, true, true, true, true, false, false] rfl rfl (one_of HT_.out (by kernel_rfl)) (by decide) (fun K hK => ?_)
                      refine Kd.R_append_rows_step (Kd.int .u8) (w0 := w) w.heap.size (by rfl) (.tmp 26) (.tmp 29) 42 5 (.int .u8 0) 1 rfl Try.underlying42 info5 rfl (by decide) (by omega) v314 y313 (l1.take ((ji44) : Int).toNat) _ _ _ (fun k_ => some k_ ≠ (.slice Ao53 y290.length co53 : Value).ownBlock) (fun _ => False) rfl rfl ?aO ?aR (fun _ _ h => h) (fun _ h => h.elim) ?aF ?aB ?aS ?aL ?_
                      (case aR => first | (refine cut_len_ ?_ (show (l1.take ((ji44) : Int).toNat).length = (ji44).toNat from (by rw [List.length_take]; have h_ : ((ji44) : Int) ≤ (l1.length : Int) := of_decide_eq_true (by first | (with_reducible assumption) | assumption); omega)); repeat (first | exact (Kd.C_below HR316.out HB.out) | (with_reducible refine Kd.C_alloc ?_ _) | (with_reducible refine Kd.C_drewN ?_ _) | (with_reducible refine Kd.C_drew ?_))) | (repeat (first | exact (Kd.C_below HR316.out HB.out) | (with_reducible refine Kd.C_alloc ?_ _) | (with_reducible refine Kd.C_drewN ?_ _) | (with_reducible refine Kd.C_drew ?_))))
                      (case aB => exact (by repeat (first | (with_reducible first | exact HB.out | apply below_alloc | apply pw_below_drewN | apply below_drew1) | exact HB.out)))
                      (case aF => exact (fun k_ hk => Kd.fresh' (Kd.R_lt (by (with_reducible repeat (first | apply Kd.R_alloc | apply Kd.R_drewN | apply Kd.R_drew)); exact HO292.out)) k_ hk))
                      (case aO => exact (by (with_reducible repeat (first | apply Kd.R_alloc | apply Kd.R_drewN | apply Kd.R_drew)); exact Kd.R_mono HO315.out (fun _ hk => hk.2)))
                      (case aS => exact (below_size (by repeat (first | (with_reducible first | exact HB.out | apply below_alloc | apply pw_below_drewN | apply below_drew1) | exact HB.out))))
                      (case aL => have := LMc47.out; have hlx_ := (show (l1.take ((ji44) : Int).toNat).length = (ji44).toNat from (by rw [List.length_take]; have h_ : ((ji44) : Int) ≤ (l1.length : Int) := of_decide_eq_true (by first | (with_reducible assumption) | assumption); omega)); omega)
                      intro v318 w59 ho hb hg hat
                      rw [← Ny317.out] at ho
                      have n0_ := Aside0.mk (Kd.R_after (ok := (fun _ => True)) (by (with_reducible repeat (first | apply Kd.R_alloc | apply Kd.R_drewN | apply Kd.R_drew)); exact HO292.out) hg hat)
                      have n1_ := Aside0.mk (hb)
                      have n2_ := Aside0.mk ((show Kd.C (Kd.int .u8) w59 A56 y320.length y320 from by rw [Ny320.out, KA56.out]; exact Kd.C_drop (m := ((ji44) : Int).toNat) (c := co53) ((Kd.R_reads' (Kd.R_after (ok := (fun _ => True)) (by (with_reducible repeat (first | apply Kd.R_alloc | apply Kd.R_drewN | apply Kd.R_drew)); exact HO292.out) hg hat)).2.2) KL56.out ((Kd.R_reads' (Kd.R_after (ok := (fun _ => True)) (by (with_reducible repeat (first | apply Kd.R_alloc | apply Kd.R_drewN | apply Kd.R_drew)); exact HO292.out) hg hat)).2.1)))
                      have n3_ := Aside0.mk (ho)
                      clear HO292
                      clear HB
                      clear HR323
                      clear HO315
                      have HO292 := n0_
                      have HB := n1_
                      have HR323 := n2_
                      have HO319 := n3_
                      clear n0_ n1_ n2_ n3_
                      clear ho hb hg hat
                      refine hK.out _ _ trivial (fun hHeld => ?_)
                      clear hK K
                      refine norm_ (a' := ?_) ?_ ?_
                      rotate_left
                      · show Act.put _ (some 30) _ = _
                        simp only [Act.put, List.setIfInBounds_toArray, List.set_cons_zero, List.set_cons_succ, i64_w, i32_w]
                        rfl
                      refine one_ (i := 8) (N := some 34) #[true, true, true, true, true, true, true, true, true, false] rfl rfl (one_of HT_.out (by kernel_rfl)) (by decide) (fun K hK => ?_)
                      refine Kd.R_append_rows_step (Kd.int .u8) (w0 := w) w.heap.size (by rfl) (.tmp 30) (.tmp 33) 42 5 (.int .u8 0) 1 rfl Try.underlying42 info5 rfl (by decide) (by omega) v318 y317 y320 _ _ _ (fun k_ => some k_ ≠ (.slice Ao53 y290.length co53 : Value).ownBlock) (fun _ => False) rfl rfl ?aO ?aR (fun _ _ h => h) (fun _ h => h.elim) ?aF ?aB ?aS ?aL ?_
                      (case aR => repeat (first | exact (by repeat (first | (with_reducible exact HR323.out) | (with_reducible refine Kd.C_alloc ?_ _) | (with_reducible refine Kd.C_drewN ?_ _) | (with_reducible refine Kd.C_drew ?_) | exact HR323.out)) | (with_reducible refine Kd.C_alloc ?_ _) | (with_reducible refine Kd.C_drewN ?_ _) | (with_reducible refine Kd.C_drew ?_)))
                      (case aB => exact (by repeat (first | (with_reducible first | exact HB.out | apply below_alloc | apply pw_below_drewN | apply below_drew1) | exact HB.out)))
                      (case aF => exact (fun k_ hk => Kd.fresh' (Kd.R_lt (by (with_reducible repeat (first | apply Kd.R_alloc | apply Kd.R_drewN | apply Kd.R_drew)); exact HO292.out)) k_ hk))
                      (case aO => exact (by (with_reducible repeat (first | apply Kd.R_alloc | apply Kd.R_drewN | apply Kd.R_drew)); exact HO319.out))
                      (case aS => exact (below_size (by repeat (first | (with_reducible first | exact HB.out | apply below_alloc | apply pw_below_drewN | apply below_drew1) | exact HB.out))))
                      (case aL => have := LMc50.out; omega)
                      intro v325 w60 ho hb hg hat
                      rw [← Ny324.out] at ho
                      have n0_ := Aside0.mk (Kd.R_after (ok := (fun _ => True)) (by (with_reducible repeat (first | apply Kd.R_alloc | apply Kd.R_drewN | apply Kd.R_drew)); exact HO292.out) hg hat)
                      have n1_ := Aside0.mk (hb)
                      have n2_ := Aside0.mk ((show Kd.C (Kd.int .u8) w60 A56 y320.length y320 from by rw [Ny320.out, KA56.out]; exact Kd.C_drop (m := ((ji44) : Int).toNat) (c := co53) ((Kd.R_reads' (Kd.R_after (ok := (fun _ => True)) (by (with_reducible repeat (first | apply Kd.R_alloc | apply Kd.R_drewN | apply Kd.R_drew)); exact HO292.out) hg hat)).2.2) KL56.out ((Kd.R_reads' (Kd.R_after (ok := (fun _ => True)) (by (with_reducible repeat (first | apply Kd.R_alloc | apply Kd.R_drewN | apply Kd.R_drew)); exact HO292.out) hg hat)).2.1)))
                      have n3_ := Aside0.mk (ho)
                      clear HO292
                      clear HB
                      clear HR323
                      clear HO319
                      have HO292 := n0_
                      have HB := n1_
                      have HR323 := n2_
                      have HO326 := n3_
                      clear n0_ n1_ n2_ n3_
                      clear ho hb hg hat
                      refine hK.out _ _ trivial (fun hHeld => ?_)
                      clear hK K
                      refine norm_ (a' := ?_) ?_ ?_
                      rotate_left
                      · show Act.put _ (some 34) _ = _
                        simp only [Act.put, List.setIfInBounds_toArray, List.set_cons_zero, List.set_cons_succ, i64_w, i32_w]
                        rfl
                      refine pure_ (i := 9) (N := some 6) (v := ?_) (a' := ?_) #[true, true, true, true, true, true, true, true, true, true] rfl rfl (any_of HT_.out (by kernel_rfl)) (fun _ _ _ h => h) (Or.inl ⟨by rfl, ?_⟩) ?_ ?_
                      rotate_left
                      · intro w'
                        go_simp
                        with_reducible rfl
                      rotate_left
                      · simp only [Act.put, List.setIfInBounds_toArray, List.set_cons_zero, List.set_cons_succ, i64_w, i32_w]
                        rfl
                      refine done_ (done_of HT_.out (by kernel_rfl)) ?_
                      try go_wp2
                      go_ret
                      exact ⟨_, by first | rfl | (simp [errW_none, errW_some] <;> rfl) | (simp only [← hji43, ← hji44]; first | rfl | (simp [errW_none, errW_some] <;> rfl)) | (simp [*, errW_none, errW_some] <;> rfl), by (with_reducible repeat (first | apply Kd.R_alloc | apply Kd.R_drewN | apply Kd.R_drew)); exact Kd.R_mono HO326.out (fun _ hk => trivial), by repeat (first | (with_reducible first | exact HB.out | apply below_alloc | apply pw_below_drewN | apply below_drew1) | exact HB.out)⟩
                    · rw [if_neg c50] at H
                      exact absurd H (by simp)
                  · rw [if_neg c49] at H
                    exact absurd H (by simp)
                · rw [if_neg c47] at H
                  exact absurd H (by simp)
              · rw [if_neg c46] at H
                exact absurd H (by simp)
            · rw [if_neg c45] at H
              exact absurd H (by simp)
          · rw [if_neg c42] at H
            have c42b0 : ((l1.length : Int) == 512) = false := beq_eq_false_iff_ne.mpr c42
            have c42b1 : ((l1.length : Int) != 512) = true := bne_iff_ne.mpr c42
            obtain rfl := Option.some.inj H
            go_enter Try.func75, Try.ntmps75
            go_wp2_with (first | ((with_reducible refine gate_dst (N := 10) rfl ?_); (try (refine gate_guard (by rfl) ?_; dsimp only)); refine Kd.R_make (Kd.int .u8) _ 5 rfl (N := 10) rfl 42 _ _ rfl 512 rfl rfl Try.underlying42 (.int .u8 0) 1 info5 rfl (by decide) (by omega) 0 (ok := fun _ => True) (okp := fun _ => True) rfl (fun _ hk => hk) trivial (by omega) (by omega) (Below.refl _ _) (Nat.le_refl _) ?_; intro v291 w61 ho62 hb hg_ hnew_; clear hg_ hnew_; (first | rw [← Ny290.out] at ho62 | (simp only [Int.reduceToNat] at ho62; rw [← Ny290.out] at ho62)); have n0_ := Aside0.mk (Kd.R_lower ho62 (below_size (by repeat (first | (with_reducible first | exact HB.out | apply below_alloc | apply pw_below_drewN | apply below_drew1) | exact HB.out)))); have n1_ := Aside0.mk (below_step (by repeat (first | (with_reducible first | exact HB.out | apply below_alloc | apply pw_below_drewN | apply below_drew1) | exact HB.out)) hb); clear HB; have HO292 := n0_; have HB := n1_; clear n0_ n1_; clear hb ho62; obtain ⟨Ao63, co63, eo63⟩ := Kd.R_slice HO292.out; subst eo63))
            go_ret
            exact ⟨_, by first | rfl | (simp [errW_none, errW_some] <;> rfl) | (simp [*, errW_none, errW_some] <;> rfl), by first | exact Kd.R_nil _ _ _ _ _ | exact Kd.N_nil _ _ _ _ _ | exact Kd.V_nil _ _ _ _ _ | exact Kd.Q_nil _ _ _ _ _ | exact Kd.S_nil _ _ _ _ _, by repeat (first | (with_reducible first | exact HB.out | apply below_alloc | apply pw_below_drewN | apply below_drew1) | exact HB.out)⟩
        · rw [if_neg c41] at H
          have c41b0 : ((y290.length : Int) == 512) = false := beq_eq_false_iff_ne.mpr c41
          have c41b1 : ((y290.length : Int) != 512) = true := bne_iff_ne.mpr c41
          obtain rfl := Option.some.inj H
          go_enter Try.func75, Try.ntmps75
          go_wp2_with (first | ((with_reducible refine gate_dst (N := 10) rfl ?_); (try (refine gate_guard (by rfl) ?_; dsimp only)); refine Kd.R_make (Kd.int .u8) _ 5 rfl (N := 10) rfl 42 _ _ rfl 512 rfl rfl Try.underlying42 (.int .u8 0) 1 info5 rfl (by decide) (by omega) 0 (ok := fun _ => True) (okp := fun _ => True) rfl (fun _ hk => hk) trivial (by omega) (by omega) (Below.refl _ _) (Nat.le_refl _) ?_; intro v291 w64 ho65 hb hg_ hnew_; clear hg_ hnew_; (first | rw [← Ny290.out] at ho65 | (simp only [Int.reduceToNat] at ho65; rw [← Ny290.out] at ho65)); have n0_ := Aside0.mk (Kd.R_lower ho65 (below_size (by repeat (first | (with_reducible first | exact HB.out | apply below_alloc | apply pw_below_drewN | apply below_drew1) | exact HB.out)))); have n1_ := Aside0.mk (below_step (by repeat (first | (with_reducible first | exact HB.out | apply below_alloc | apply pw_below_drewN | apply below_drew1) | exact HB.out)) hb); clear HB; have HO292 := n0_; have HB := n1_; clear n0_ n1_; clear hb ho65; obtain ⟨Ao66, co66, eo66⟩ := Kd.R_slice HO292.out; subst eo66))
          go_ret
          exact ⟨_, by first | rfl | (simp [errW_none, errW_some] <;> rfl) | (simp [*, errW_none, errW_some] <;> rfl), by first | exact Kd.R_nil _ _ _ _ _ | exact Kd.N_nil _ _ _ _ _ | exact Kd.V_nil _ _ _ _ _ | exact Kd.Q_nil _ _ _ _ _ | exact Kd.S_nil _ _ _ _ _, by repeat (first | (with_reducible first | exact HB.out | apply below_alloc | apply pw_below_drewN | apply below_drew1) | exact HB.out)⟩
    · rw [if_neg c5] at H
      exact absurd H (by simp)
  · rw [if_neg c4] at H
    have c4b0 : ((l0.length : Int) == 0) = false := beq_eq_false_iff_ne.mpr c4
    have c4b1 : ((l0.length : Int) != 0) = true := bne_iff_ne.mpr c4
    have c4b2 : ¬ (l0 = []) := fun h_ => c4 (by rw [h_]; rfl)
    by_cases c67 : (l1.length : Int) = 0
    · rw [if_pos c67] at H
      have c67b0 : ((l1.length : Int) == 0) = true := beq_iff_eq.mpr c67
      have c67b1 : ((l1.length : Int) != 0) = false := bne_eq_false_iff_eq.mpr c67
      clear c67
      by_cases c68 : 512 ≤ 281474976710656
      · rw [if_pos c68] at H
        have c68b0 := eq_true c68
        have c68b1 : decide (512 ≤ 281474976710656) = true := decide_eq_true c68
        clear c68
        obtain ⟨y327, hy327⟩ : ∃ y_ : List Int, y_ = (List.replicate 512 0) := ⟨_, rfl⟩
        replace H : (if (l0.length : Int) = 512 then (if (y327.length : Int) = 512 then ((some (([] : List Int) : List Int)).bind fun y330 => (if 0 ≤ (mx 0 (mn a2 512)) then (if (mx 0 (mn a2 512)) ≤ (y327.length : Int) then ((some (y327.take ((mx 0 (mn a2 512)) : Int).toNat : List Int)).bind fun y333 => (if y330.length + y333.length < 140737488355328 then ((some (y330 ++ y333 : List Int)).bind fun y337 => (if (mx 0 (mn a2 512)) ≤ (l0.length : Int) then (if y337.length + (l0.drop ((mx 0 (mn a2 512)) : Int).toNat).length < 140737488355328 then (some (y337 ++ (l0.drop ((mx 0 (mn a2 512)) : Int).toNat))) else (none)) else (none))) else (none))) else (none)) else (none))) else (some ([] : List Int))) else (some ([] : List Int))) = some r := by first | (rw [hy327]; with_reducible exact H) | (have H2_ := (Option.bind_some _ _).symm.trans H; rw [hy327]; with_reducible exact H2_) | (have H2_ := (Option.bind_some _ _).symm.trans H; with_reducible exact H2_) | with_reducible exact H | (rw [hy327]; exact H) | exact H
        have Ny327 := Aside0.mk hy327
        clear hy327
        by_cases c69 : (l0.length : Int) = 512
        · rw [if_pos c69] at H
          have c69b0 : ((l0.length : Int) == 512) = true := beq_iff_eq.mpr c69
          have c69b1 : ((l0.length : Int) != 512) = false := bne_eq_false_iff_eq.mpr c69
          clear c69
          by_cases c70 : (y327.length : Int) = 512
          · rw [if_pos c70] at H
            have c70b0 : ((y327.length : Int) == 512) = true := beq_iff_eq.mpr c70
            have c70b1 : ((y327.length : Int) != 512) = false := bne_eq_false_iff_eq.mpr c70
            clear c70
            obtain ⟨ji71, hji71⟩ : ∃ j_ : Int, (mn a2 512) = j_ := ⟨_, rfl⟩
            replace H : ((some (([] : List Int) : List Int)).bind fun y330 => (if 0 ≤ (mx 0 (ji71)) then (if (mx 0 (ji71)) ≤ (y327.length : Int) then ((some (y327.take ((mx 0 (ji71)) : Int).toNat : List Int)).bind fun y333 => (if y330.length + y333.length < 140737488355328 then ((some (y330 ++ y333 : List Int)).bind fun y337 => (if (mx 0 (ji71)) ≤ (l0.length : Int) then (if y337.length + (l0.drop ((mx 0 (ji71)) : Int).toNat).length < 140737488355328 then (some (y337 ++ (l0.drop ((mx 0 (ji71)) : Int).toNat))) else (none)) else (none))) else (none))) else (none)) else (none))) = some r := by first | (rw [hji71] at H; exact H) | (simp only [hji71] at H ⊢; exact H)
            (try (have hji71h : ji71 ≤ 512 := by (rw [← hji71]; unfold mn; (repeat' split) <;> omega)))
            (try (have hji71g : ji71 ≤ 64 := by omega))
            have hji71_ : (if 512 < a2 then 512 else a2) = ji71 := hji71
            obtain ⟨ji72, hji72⟩ : ∃ j_ : Int, (mx 0 (ji71)) = j_ := ⟨_, rfl⟩
            replace H : ((some (([] : List Int) : List Int)).bind fun y330 => (if 0 ≤ (ji72) then (if (ji72) ≤ (y327.length : Int) then ((some (y327.take ((ji72) : Int).toNat : List Int)).bind fun y333 => (if y330.length + y333.length < 140737488355328 then ((some (y330 ++ y333 : List Int)).bind fun y337 => (if (ji72) ≤ (l0.length : Int) then (if y337.length + (l0.drop ((ji72) : Int).toNat).length < 140737488355328 then (some (y337 ++ (l0.drop ((ji72) : Int).toNat))) else (none)) else (none))) else (none))) else (none)) else (none))) = some r := by first | (rw [hji72] at H; exact H) | (simp only [hji72] at H ⊢; exact H)
            have hji72_ : (if 0 < (ji71) then (ji71) else 0) = ji72 := hji72
            obtain ⟨y330, hy330⟩ : ∃ y_ : List Int, y_ = (([] : List Int)) := ⟨_, rfl⟩
            replace H : (if 0 ≤ (ji72) then (if (ji72) ≤ (y327.length : Int) then ((some (y327.take ((ji72) : Int).toNat : List Int)).bind fun y333 => (if y330.length + y333.length < 140737488355328 then ((some (y330 ++ y333 : List Int)).bind fun y337 => (if (ji72) ≤ (l0.length : Int) then (if y337.length + (l0.drop ((ji72) : Int).toNat).length < 140737488355328 then (some (y337 ++ (l0.drop ((ji72) : Int).toNat))) else (none)) else (none))) else (none))) else (none)) else (none)) = some r := by first | (rw [hy330]; with_reducible exact H) | (have H2_ := (Option.bind_some _ _).symm.trans H; rw [hy330]; with_reducible exact H2_) | (have H2_ := (Option.bind_some _ _).symm.trans H; with_reducible exact H2_) | with_reducible exact H | (rw [hy330]; exact H) | exact H
            have Ny330 := Aside0.mk hy330
            clear hy330
            by_cases c73 : 0 ≤ (ji72)
            · rw [if_pos c73] at H
              have c73b0 := eq_true c73
              have c73b1 : decide (0 ≤ (ji72)) = true := decide_eq_true c73
              clear c73
              by_cases c74 : (ji72) ≤ (y327.length : Int)
              · rw [if_pos c74] at H
                have c74b0 := eq_true c74
                have c74b1 : decide ((ji72) ≤ (y327.length : Int)) = true := decide_eq_true c74
                clear c74
                obtain ⟨y333, hy333⟩ : ∃ y_ : List Int, y_ = (y327.take ((ji72) : Int).toNat) := ⟨_, rfl⟩
                replace H : (if y330.length + y333.length < 140737488355328 then ((some (y330 ++ y333 : List Int)).bind fun y337 => (if (ji72) ≤ (l0.length : Int) then (if y337.length + (l0.drop ((ji72) : Int).toNat).length < 140737488355328 then (some (y337 ++ (l0.drop ((ji72) : Int).toNat))) else (none)) else (none))) else (none)) = some r := by first | (rw [hy333]; with_reducible exact H) | (have H2_ := (Option.bind_some _ _).symm.trans H; rw [hy333]; with_reducible exact H2_) | (have H2_ := (Option.bind_some _ _).symm.trans H; with_reducible exact H2_) | with_reducible exact H | (rw [hy333]; exact H) | exact H
                have Ny333 := Aside0.mk hy333
                clear hy333
                by_cases c75 : y330.length + y333.length < 140737488355328
                · rw [if_pos c75] at H
                  have LMc75 := Aside0.mk c75
                  clear c75
                  obtain ⟨y337, hy337⟩ : ∃ y_ : List Int, y_ = (y330 ++ y333) := ⟨_, rfl⟩
                  replace H : (if (ji72) ≤ (l0.length : Int) then (if y337.length + (l0.drop ((ji72) : Int).toNat).length < 140737488355328 then (some (y337 ++ (l0.drop ((ji72) : Int).toNat))) else (none)) else (none)) = some r := by first | (rw [hy337]; with_reducible exact H) | (have H2_ := (Option.bind_some _ _).symm.trans H; rw [hy337]; with_reducible exact H2_) | (have H2_ := (Option.bind_some _ _).symm.trans H; with_reducible exact H2_) | with_reducible exact H | (rw [hy337]; exact H) | exact H
                  have Ny337 := Aside0.mk hy337
                  clear hy337
                  have c76b0 := eq_true (of_decide_eq_true (by first | (with_reducible assumption) | assumption) : 0 ≤ (ji72))
                  by_cases c77 : (ji72) ≤ (l0.length : Int)
                  · rw [if_pos c77] at H
                    have c77b0 := eq_true c77
                    have c77b1 : decide ((ji72) ≤ (l0.length : Int)) = true := decide_eq_true c77
                    clear c77
                    by_cases c78 : y337.length + (l0.drop ((ji72) : Int).toNat).length < 140737488355328
                    · rw [if_pos c78] at H
                      have LMc78 := Aside0.mk c78
                      clear c78
                      obtain ⟨y341, hy341⟩ : ∃ y_ : List Int, y_ = (y337 ++ (l0.drop ((ji72) : Int).toNat)) := ⟨_, rfl⟩
                      replace H : (some y341) = some r := by first | (rw [hy341]; with_reducible exact H) | (have H2_ := (Option.bind_some _ _).symm.trans H; rw [hy341]; with_reducible exact H2_) | (have H2_ := (Option.bind_some _ _).symm.trans H; with_reducible exact H2_) | with_reducible exact H | (rw [hy341]; exact H) | exact H
                      have Ny341 := Aside0.mk hy341
                      clear hy341
                      obtain rfl := Option.some.inj H
                      go_enter Try.func75, Try.ntmps75
                      try go_wp2_with (first | ((with_reducible refine gate_dst (N := 14) rfl ?_); (try (refine gate_guard (by rfl) ?_; dsimp only)); refine Kd.R_make (Kd.int .u8) _ 5 rfl (N := 14) rfl 42 _ _ rfl 512 rfl rfl Try.underlying42 (.int .u8 0) 1 info5 rfl (by decide) (by omega) 0 (ok := fun _ => True) (okp := fun _ => True) rfl (fun _ hk => hk) trivial (by omega) (by omega) (Below.refl _ _) (Nat.le_refl _) ?_; intro v328 w79 ho80 hb hg_ hnew_; clear hg_ hnew_; (first | rw [← Ny327.out] at ho80 | (simp only [Int.reduceToNat] at ho80; rw [← Ny327.out] at ho80)); have n0_ := Aside0.mk (Kd.R_lower ho80 (below_size (by repeat (first | (with_reducible first | exact HB.out | apply below_alloc | apply pw_below_drewN | apply below_drew1) | exact HB.out)))); have n1_ := Aside0.mk (below_step (by repeat (first | (with_reducible first | exact HB.out | apply below_alloc | apply pw_below_drewN | apply below_drew1) | exact HB.out)) hb); clear HB; have HO329 := n0_; have HB := n1_; clear n0_ n1_; clear hb ho80; obtain ⟨Ao81, co81, eo81⟩ := Kd.R_slice HO329.out; subst eo81))
                      have n0_ := Aside0.mk (Kd.R_drew HO329.out)
                      have n1_ := Aside0.mk (below_drew1 HB.out)
                      clear HO329
                      clear HB
                      have HO329 := n0_
                      have HB := n1_
                      clear n0_ n1_
                      have q83 : ((ji72) : Int) ≤ ((y327.length : Int) : Int) := of_decide_eq_true (by first | (with_reducible assumption) | assumption)
                      obtain ⟨i083, hi083, _, hsz83, _⟩ := info_parts info5
                      have hroom83 : y327.length ≤ co81 := (Kd.R_reads' HO329.out).2.1
                      have hC83 : Kd.C (Kd.int .u8) _ Ao81 y327.length y327 := (Kd.R_reads' HO329.out).2.2
                      have hcut83 := cut_to (P := Try.prog) 42 5 .i64 Try.underlying42 hi083 Ao81 y327.length co81 (ji72) (of_decide_eq_true (by first | (with_reducible assumption) | assumption)) q83 hroom83
                      have hr83 := Kd.C_take (m := ((ji72) : Int).toNat) hC83 (by omega)
                      have hy83 : y333.length = ((ji72) : Int).toNat := (by rw [Ny333.out, List.length_take]; omega)
                      rw [← Ny333.out] at hr83
                      rw [← hy83] at hcut83
                      have HR336 := Aside0.mk hr83
                      have HC336 := Aside0.mk (show y333.length ≤ co81 from by omega)
                      clear hr83 hC83 hroom83 hi083 hsz83
                      have KY83 := Aside0.mk hy83
                      clear hy83
                      have KL83 := Aside0.mk (show ((ji72) : Int).toNat ≤ y327.length from by omega)
                      replace q83 := eq_true q83
                      obtain ⟨i084, hi084, _, hsz84, _⟩ := info_parts info5
                      obtain ⟨A84, hcut84, hA84, hC84⟩ := print_drop_of (P := Try.prog) (Value.int .u8) 0 42 5 .i64 Try.underlying42 hi084 hsz84 A0 c0 l0 (ji72) (of_decide_eq_true (by first | (with_reducible assumption) | assumption)) (of_decide_eq_true (by first | (with_reducible assumption) | assumption)) HC0.out
                      have HR340 := Aside0.mk (Kd.C_of_reads (h1 := fun _ => rfl) (hA84 _ (Kd.reads_of_C HR0.out)))
                      have HC340 := Aside0.mk hC84
                      clear hA84 hC84 hi084 hsz84
                      refine start_ (n := 10) (S := fun w' => True) (ds := []) #[false, false, false, false, false, false, false, false, false, false] (by kernel_rfl) rfl rfl trivial (fun hHeld => ?_); refine with_tabW impl_Tear.tab8 impl_Tear.bits8 (fun HT_ HW_ => ?_)
                      generalize w79.drew = w82 at HO329 HB HR336 HR340 hHeld ⊢
                      refine pure_ (i := 1) (N := some 27) (v := ?_) (a' := ?_) #[false, true, false, false, false, false, false, false, false, false] rfl rfl (any_of HT_.out (by kernel_rfl)) (fun _ _ _ h => h) (Or.inl ⟨by rfl, ?_⟩) ?_ ?_
                      rotate_left
                      · intro w'
                        go_simp
                        with_reducible rfl
                      rotate_left
                      · simp only [Act.put, List.setIfInBounds_toArray, List.set_cons_zero, List.set_cons_succ, i64_w, i32_w]
                        rfl
                      refine pure_ (i := 2) (N := some 28) (v := ?_) (a' := ?_) #[false, true, true, false, false, false, false, false, false, false] rfl rfl (any_of HT_.out (by kernel_rfl)) (fun _ _ _ h => h) (Or.inl ⟨by rfl, ?_⟩) ?_ ?_
                      rotate_left
                      · intro w'
                        go_simp
                        with_reducible rfl
                      rotate_left
                      · simp only [Act.put, List.setIfInBounds_toArray, List.set_cons_zero, List.set_cons_succ, i64_w, i32_w]
                        rfl
                      refine pure_ (i := 3) (N := some 29) (v := ?_) (a' := ?_) #[false, true, true, true, false, false, false, false, false, false] rfl rfl (any_of HT_.out (by kernel_rfl)) (fun _ _ _ h => h) (Or.inl ⟨by rfl, ?_⟩) ?_ ?_
                      rotate_left
                      · intro w'
                        go_simp
                        with_reducible rfl
                      rotate_left
                      · simp only [Act.put, List.setIfInBounds_toArray, List.set_cons_zero, List.set_cons_succ, i64_w, i32_w]
                        rfl
                      refine pure_ (i := 5) (N := some 31) (v := ?_) (a' := ?_) #[false, true, true, true, false, true, false, false, false, false] rfl rfl (any_of HT_.out (by kernel_rfl)) (fun _ _ _ h => h) (Or.inl ⟨by rfl, ?_⟩) ?_ ?_
                      rotate_left
                      · intro w'
                        go_simp
                        with_reducible rfl
                      rotate_left
                      · simp only [Act.put, List.setIfInBounds_toArray, List.set_cons_zero, List.set_cons_succ, i64_w, i32_w]
                        rfl
                      refine pure_ (i := 6) (N := some 32) (v := ?_) (a' := ?_) #[false, true, true, true, false, true, true, false, false, false] rfl rfl (any_of HT_.out (by kernel_rfl)) (fun _ _ _ h => h) (Or.inl ⟨by rfl, ?_⟩) ?_ ?_
                      rotate_left
                      · intro w'
                        go_simp
                        with_reducible rfl
                      rotate_left
                      · simp only [Act.put, List.setIfInBounds_toArray, List.set_cons_zero, List.set_cons_succ, i64_w, i32_w]
                        rfl
                      refine pure_ (i := 7) (N := some 33) (v := ?_) (a' := ?_) #[false, true, true, true, false, true, true, true, false, false] rfl rfl (any_of HT_.out (by kernel_rfl)) (fun _ _ _ h => h) (Or.inl ⟨by rfl, ?_⟩) ?_ ?_
                      rotate_left
                      · intro w'
                        go_simp
                        with_reducible rfl
                      rotate_left
                      · simp only [Act.put, List.setIfInBounds_toArray, List.set_cons_zero, List.set_cons_succ, i64_w, i32_w]
                        rfl
                      refine one_ (i := 0) (N := some 26) #[true, true, true, true, false, true, true, true, false, false] rfl rfl (one_of HT_.out (by kernel_rfl)) (by decide) (fun K hK => ?_)
                      refine Kd.R_lit_step (Kd.int .u8) _ 5 ?hg (N := 26) ?hd (xs := ([] : List Int)) (inner := []) (ok := fun _ => True) (okp := fun _ => True) ?hr ?hp (fun _ hk => hk) trivial (Below.refl _ _) (Nat.le_refl _) (by simp) ?_; (case hd => rfl); (case hg => rfl); (case hr => first | (go_simp; done) | (go_simp; rfl)); (case hp => exact (Reps.none _ _))
                      intro v331 w85 ho86 hb hg_ hnew_
                      clear hg_ hnew_
                      (first | rw [← Ny330.out] at ho86 | (simp only [Int.reduceToNat] at ho86; rw [← Ny330.out] at ho86))
                      have n0_ := Aside0.mk (Kd.R_elder' (by (with_reducible repeat (first | apply Kd.R_alloc | apply Kd.R_drewN | apply Kd.R_drew)); exact HO329.out) (Kd.R_base ho86) hb)
                      have n1_ := Aside0.mk (Kd.R_lower (Kd.R_new' ho86 (Kd.R_lt (by (with_reducible repeat (first | apply Kd.R_alloc | apply Kd.R_drewN | apply Kd.R_drew)); exact HO329.out))) (below_size (by repeat (first | (with_reducible first | exact HB.out | apply below_alloc | apply pw_below_drewN | apply below_drew1) | exact HB.out))))
                      have n2_ := Aside0.mk (Kd.C_below (by repeat (first | (with_reducible exact HR336.out) | (with_reducible refine Kd.C_alloc ?_ _) | (with_reducible refine Kd.C_drewN ?_ _) | (with_reducible refine Kd.C_drew ?_) | exact HR336.out)) hb)
                      have n3_ := Aside0.mk (below_step (by repeat (first | (with_reducible first | exact HB.out | apply below_alloc | apply pw_below_drewN | apply below_drew1) | exact HB.out)) hb)
                      clear HO329
                      clear HR336
                      clear HB
                      have HO329 := n0_
                      have HO332 := n1_
                      have HR336 := n2_
                      have HB := n3_
                      clear n0_ n1_ n2_ n3_
                      clear hb ho86
                      refine hK.out _ _ trivial (fun hHeld => ?_)
                      clear hK K
                      refine norm_ (a' := ?_) ?_ ?_
                      rotate_left
                      · show Act.put _ (some 26) _ = _
                        simp only [Act.put, List.setIfInBounds_toArray, List.set_cons_zero, List.set_cons_succ, i64_w, i32_w]
                        rfl
                      refine one_ (i := 4) (N := some 30) #[true, true, true, true, true, true, true, true, false, false] rfl rfl (one_of HT_.out (by kernel_rfl)) (by decide) (fun K hK => ?_)
                      refine Kd.R_append_rows_step (Kd.int .u8) (w0 := w) w.heap.size (by rfl) (.tmp 26) (.tmp 29) 42 5 (.int .u8 0) 1 rfl Try.underlying42 info5 rfl (by decide) (by omega) v331 y330 y333 _ _ _ (fun k_ => some k_ ≠ (.slice Ao81 y327.length co81 : Value).ownBlock) (fun _ => False) rfl rfl ?aO ?aR (fun _ _ h => h) (fun _ h => h.elim) ?aF ?aB ?aS ?aL ?_
                      (case aR => repeat (first | exact (by repeat (first | (with_reducible exact HR336.out) | (with_reducible refine Kd.C_alloc ?_ _) | (with_reducible refine Kd.C_drewN ?_ _) | (with_reducible refine Kd.C_drew ?_) | exact HR336.out)) | (with_reducible refine Kd.C_alloc ?_ _) | (with_reducible refine Kd.C_drewN ?_ _) | (with_reducible refine Kd.C_drew ?_)))
                      (case aB => exact (by repeat (first | (with_reducible first | exact HB.out | apply below_alloc | apply pw_below_drewN | apply below_drew1) | exact HB.out)))
                      (case aF => exact (fun k_ hk => Kd.fresh' (Kd.R_lt (by (with_reducible repeat (first | apply Kd.R_alloc | apply Kd.R_drewN | apply Kd.R_drew)); exact HO329.out)) k_ hk))
                      (case aO => exact (by (with_reducible repeat (first | apply Kd.R_alloc | apply Kd.R_drewN | apply Kd.R_drew)); exact Kd.R_mono HO332.out (fun _ hk => hk.2)))
                      (case aS => exact (below_size (by repeat (first | (with_reducible first | exact HB.out | apply below_alloc | apply pw_below_drewN | apply below_drew1) | exact HB.out))))
                      (case aL => have := LMc75.out; omega)
                      intro v338 w87 ho hb hg hat
                      rw [← Ny337.out] at ho
                      have n0_ := Aside0.mk (Kd.R_after (ok := (fun _ => True)) (by (with_reducible repeat (first | apply Kd.R_alloc | apply Kd.R_drewN | apply Kd.R_drew)); exact HO329.out) hg hat)
                      have n1_ := Aside0.mk (hb)
                      have n2_ := Aside0.mk ((show Kd.C (Kd.int .u8) w87 Ao81 y333.length y333 from by rw [Ny333.out]; exact Kd.C_take (m := ((ji72) : Int).toNat) ((Kd.R_reads' (Kd.R_after (ok := (fun _ => True)) (by (with_reducible repeat (first | apply Kd.R_alloc | apply Kd.R_drewN | apply Kd.R_drew)); exact HO329.out) hg hat)).2.2) KL83.out))
                      have n3_ := Aside0.mk (ho)
                      clear HO329
                      clear HB
                      clear HR336
                      clear HO332
                      have HO329 := n0_
                      have HB := n1_
                      have HR336 := n2_
                      have HO339 := n3_
                      clear n0_ n1_ n2_ n3_
                      clear ho hb hg hat
                      refine hK.out _ _ trivial (fun hHeld => ?_)
                      clear hK K
                      refine norm_ (a' := ?_) ?_ ?_
                      rotate_left
                      · show Act.put _ (some 30) _ = _
                        simp only [Act.put, List.setIfInBounds_toArray, List.set_cons_zero, List.set_cons_succ, i64_w, i32_w]
                        rfl
                      refine one_ (i := 8) (N := some 34) #[true, true, true, true, true, true, true, true, true, false] rfl rfl (one_of HT_.out (by kernel_rfl)) (by decide) (fun K hK => ?_)
                      refine Kd.R_append_rows_step (Kd.int .u8) (w0 := w) w.heap.size (by rfl) (.tmp 30) (.tmp 33) 42 5 (.int .u8 0) 1 rfl Try.underlying42 info5 rfl (by decide) (by omega) v338 y337 (l0.drop ((ji72) : Int).toNat) _ _ _ (fun k_ => some k_ ≠ (.slice Ao81 y327.length co81 : Value).ownBlock) (fun _ => False) rfl rfl ?aO ?aR (fun _ _ h => h) (fun _ h => h.elim) ?aF ?aB ?aS ?aL ?_
                      (case aR => first | (rw [← show (l0.drop ((ji72) : Int).toNat).length = (l0.length - (ji72).toNat) from List.length_drop]; repeat (first | exact (Kd.C_below HR340.out HB.out) | (with_reducible refine Kd.C_alloc ?_ _) | (with_reducible refine Kd.C_drewN ?_ _) | (with_reducible refine Kd.C_drew ?_))) | (repeat (first | exact (Kd.C_below HR340.out HB.out) | (with_reducible refine Kd.C_alloc ?_ _) | (with_reducible refine Kd.C_drewN ?_ _) | (with_reducible refine Kd.C_drew ?_))))
                      (case aB => exact (by repeat (first | (with_reducible first | exact HB.out | apply below_alloc | apply pw_below_drewN | apply below_drew1) | exact HB.out)))
                      (case aF => exact (fun k_ hk => Kd.fresh' (Kd.R_lt (by (with_reducible repeat (first | apply Kd.R_alloc | apply Kd.R_drewN | apply Kd.R_drew)); exact HO329.out)) k_ hk))
                      (case aO => exact (by (with_reducible repeat (first | apply Kd.R_alloc | apply Kd.R_drewN | apply Kd.R_drew)); exact HO339.out))
                      (case aS => exact (below_size (by repeat (first | (with_reducible first | exact HB.out | apply below_alloc | apply pw_below_drewN | apply below_drew1) | exact HB.out))))
                      (case aL => have := LMc78.out; have hlx_ := (show (l0.drop ((ji72) : Int).toNat).length = (l0.length - (ji72).toNat) from List.length_drop); omega)
                      intro v342 w88 ho hb hg hat
                      rw [← Ny341.out] at ho
                      have n0_ := Aside0.mk (Kd.R_after (ok := (fun _ => True)) (by (with_reducible repeat (first | apply Kd.R_alloc | apply Kd.R_drewN | apply Kd.R_drew)); exact HO329.out) hg hat)
                      have n1_ := Aside0.mk (hb)
                      have n2_ := Aside0.mk ((show Kd.C (Kd.int .u8) w88 Ao81 y333.length y333 from by rw [Ny333.out]; exact Kd.C_take (m := ((ji72) : Int).toNat) ((Kd.R_reads' (Kd.R_after (ok := (fun _ => True)) (by (with_reducible repeat (first | apply Kd.R_alloc | apply Kd.R_drewN | apply Kd.R_drew)); exact HO329.out) hg hat)).2.2) KL83.out))
                      have n3_ := Aside0.mk (ho)
                      clear HO329
                      clear HB
                      clear HR336
                      clear HO339
                      have HO329 := n0_
                      have HB := n1_
                      have HR336 := n2_
                      have HO343 := n3_
                      clear n0_ n1_ n2_ n3_
                      clear ho hb hg hat
                      refine hK.out _ _ trivial (fun hHeld => ?_)
                      clear hK K
                      refine norm_ (a' := ?_) ?_ ?_
                      rotate_left
                      · show Act.put _ (some 34) _ = _
                        simp only [Act.put, List.setIfInBounds_toArray, List.set_cons_zero, List.set_cons_succ, i64_w, i32_w]
                        rfl
                      refine pure_ (i := 9) (N := some 6) (v := ?_) (a' := ?_) #[true, true, true, true, true, true, true, true, true, true] rfl rfl (any_of HT_.out (by kernel_rfl)) (fun _ _ _ h => h) (Or.inl ⟨by rfl, ?_⟩) ?_ ?_
                      rotate_left
                      · intro w'
                        go_simp
                        with_reducible rfl
                      rotate_left
                      · simp only [Act.put, List.setIfInBounds_toArray, List.set_cons_zero, List.set_cons_succ, i64_w, i32_w]
                        rfl
                      refine done_ (done_of HT_.out (by kernel_rfl)) ?_
                      try go_wp2
                      go_ret
                      exact ⟨_, by first | rfl | (simp [errW_none, errW_some] <;> rfl) | (simp only [← hji71, ← hji72]; first | rfl | (simp [errW_none, errW_some] <;> rfl)) | (simp [*, errW_none, errW_some] <;> rfl), by (with_reducible repeat (first | apply Kd.R_alloc | apply Kd.R_drewN | apply Kd.R_drew)); exact Kd.R_mono HO343.out (fun _ hk => trivial), by repeat (first | (with_reducible first | exact HB.out | apply below_alloc | apply pw_below_drewN | apply below_drew1) | exact HB.out)⟩
                    · rw [if_neg c78] at H
                      exact absurd H (by simp)
                  · rw [if_neg c77] at H
                    exact absurd H (by simp)
                · rw [if_neg c75] at H
                  exact absurd H (by simp)
              · rw [if_neg c74] at H
                exact absurd H (by simp)
            · rw [if_neg c73] at H
              exact absurd H (by simp)
          · rw [if_neg c70] at H
            have c70b0 : ((y327.length : Int) == 512) = false := beq_eq_false_iff_ne.mpr c70
            have c70b1 : ((y327.length : Int) != 512) = true := bne_iff_ne.mpr c70
            obtain rfl := Option.some.inj H
            go_enter Try.func75, Try.ntmps75
            go_wp2_with (first | ((with_reducible refine gate_dst (N := 14) rfl ?_); (try (refine gate_guard (by rfl) ?_; dsimp only)); refine Kd.R_make (Kd.int .u8) _ 5 rfl (N := 14) rfl 42 _ _ rfl 512 rfl rfl Try.underlying42 (.int .u8 0) 1 info5 rfl (by decide) (by omega) 0 (ok := fun _ => True) (okp := fun _ => True) rfl (fun _ hk => hk) trivial (by omega) (by omega) (Below.refl _ _) (Nat.le_refl _) ?_; intro v328 w89 ho90 hb hg_ hnew_; clear hg_ hnew_; (first | rw [← Ny327.out] at ho90 | (simp only [Int.reduceToNat] at ho90; rw [← Ny327.out] at ho90)); have n0_ := Aside0.mk (Kd.R_lower ho90 (below_size (by repeat (first | (with_reducible first | exact HB.out | apply below_alloc | apply pw_below_drewN | apply below_drew1) | exact HB.out)))); have n1_ := Aside0.mk (below_step (by repeat (first | (with_reducible first | exact HB.out | apply below_alloc | apply pw_below_drewN | apply below_drew1) | exact HB.out)) hb); clear HB; have HO329 := n0_; have HB := n1_; clear n0_ n1_; clear hb ho90; obtain ⟨Ao91, co91, eo91⟩ := Kd.R_slice HO329.out; subst eo91))
            go_ret
            exact ⟨_, by first | rfl | (simp [errW_none, errW_some] <;> rfl) | (simp [*, errW_none, errW_some] <;> rfl), by first | exact Kd.R_nil _ _ _ _ _ | exact Kd.N_nil _ _ _ _ _ | exact Kd.V_nil _ _ _ _ _ | exact Kd.Q_nil _ _ _ _ _ | exact Kd.S_nil _ _ _ _ _, by repeat (first | (with_reducible first | exact HB.out | apply below_alloc | apply pw_below_drewN | apply below_drew1) | exact HB.out)⟩
        · rw [if_neg c69] at H
          have c69b0 : ((l0.length : Int) == 512) = false := beq_eq_false_iff_ne.mpr c69
          have c69b1 : ((l0.length : Int) != 512) = true := bne_iff_ne.mpr c69
          obtain rfl := Option.some.inj H
          go_enter Try.func75, Try.ntmps75
          go_wp2_with (first | ((with_reducible refine gate_dst (N := 14) rfl ?_); (try (refine gate_guard (by rfl) ?_; dsimp only)); refine Kd.R_make (Kd.int .u8) _ 5 rfl (N := 14) rfl 42 _ _ rfl 512 rfl rfl Try.underlying42 (.int .u8 0) 1 info5 rfl (by decide) (by omega) 0 (ok := fun _ => True) (okp := fun _ => True) rfl (fun _ hk => hk) trivial (by omega) (by omega) (Below.refl _ _) (Nat.le_refl _) ?_; intro v328 w92 ho93 hb hg_ hnew_; clear hg_ hnew_; (first | rw [← Ny327.out] at ho93 | (simp only [Int.reduceToNat] at ho93; rw [← Ny327.out] at ho93)); have n0_ := Aside0.mk (Kd.R_lower ho93 (below_size (by repeat (first | (with_reducible first | exact HB.out | apply below_alloc | apply pw_below_drewN | apply below_drew1) | exact HB.out)))); have n1_ := Aside0.mk (below_step (by repeat (first | (with_reducible first | exact HB.out | apply below_alloc | apply pw_below_drewN | apply below_drew1) | exact HB.out)) hb); clear HB; have HO329 := n0_; have HB := n1_; clear n0_ n1_; clear hb ho93))
          go_ret
          exact ⟨_, by first | rfl | (simp [errW_none, errW_some] <;> rfl) | (simp [*, errW_none, errW_some] <;> rfl), by first | exact Kd.R_nil _ _ _ _ _ | exact Kd.N_nil _ _ _ _ _ | exact Kd.V_nil _ _ _ _ _ | exact Kd.Q_nil _ _ _ _ _ | exact Kd.S_nil _ _ _ _ _, by repeat (first | (with_reducible first | exact HB.out | apply below_alloc | apply pw_below_drewN | apply below_drew1) | exact HB.out)⟩
      · rw [if_neg c68] at H
        exact absurd H (by simp)
    · rw [if_neg c67] at H
      have c67b0 : ((l1.length : Int) == 0) = false := beq_eq_false_iff_ne.mpr c67
      have c67b1 : ((l1.length : Int) != 0) = true := bne_iff_ne.mpr c67
      have c67b2 : ¬ (l1 = []) := fun h_ => c67 (by rw [h_]; rfl)
      by_cases c94 : (l0.length : Int) = 512
      · rw [if_pos c94] at H
        have c94b0 : ((l0.length : Int) == 512) = true := beq_iff_eq.mpr c94
        have c94b1 : ((l0.length : Int) != 512) = false := bne_eq_false_iff_eq.mpr c94
        clear c94
        by_cases c95 : (l1.length : Int) = 512
        · rw [if_pos c95] at H
          have c95b0 : ((l1.length : Int) == 512) = true := beq_iff_eq.mpr c95
          have c95b1 : ((l1.length : Int) != 512) = false := bne_eq_false_iff_eq.mpr c95
          clear c95
          obtain ⟨ji96, hji96⟩ : ∃ j_ : Int, (mn a2 512) = j_ := ⟨_, rfl⟩
          replace H : ((some (([] : List Int) : List Int)).bind fun y344 => (if 0 ≤ (mx 0 (ji96)) then (if (mx 0 (ji96)) ≤ (l1.length : Int) then (if y344.length + (l1.take ((mx 0 (ji96)) : Int).toNat).length < 140737488355328 then ((some (y344 ++ (l1.take ((mx 0 (ji96)) : Int).toNat) : List Int)).bind fun y348 => (if (mx 0 (ji96)) ≤ (l0.length : Int) then (if y348.length + (l0.drop ((mx 0 (ji96)) : Int).toNat).length < 140737488355328 then (some (y348 ++ (l0.drop ((mx 0 (ji96)) : Int).toNat))) else (none)) else (none))) else (none)) else (none)) else (none))) = some r := by first | (rw [hji96] at H; exact H) | (simp only [hji96] at H ⊢; exact H)
          (try (have hji96h : ji96 ≤ 512 := by (rw [← hji96]; unfold mn; (repeat' split) <;> omega)))
          (try (have hji96g : ji96 ≤ 64 := by omega))
          have hji96_ : (if 512 < a2 then 512 else a2) = ji96 := hji96
          obtain ⟨ji97, hji97⟩ : ∃ j_ : Int, (mx 0 (ji96)) = j_ := ⟨_, rfl⟩
          replace H : ((some (([] : List Int) : List Int)).bind fun y344 => (if 0 ≤ (ji97) then (if (ji97) ≤ (l1.length : Int) then (if y344.length + (l1.take ((ji97) : Int).toNat).length < 140737488355328 then ((some (y344 ++ (l1.take ((ji97) : Int).toNat) : List Int)).bind fun y348 => (if (ji97) ≤ (l0.length : Int) then (if y348.length + (l0.drop ((ji97) : Int).toNat).length < 140737488355328 then (some (y348 ++ (l0.drop ((ji97) : Int).toNat))) else (none)) else (none))) else (none)) else (none)) else (none))) = some r := by first | (rw [hji97] at H; exact H) | (simp only [hji97] at H ⊢; exact H)
          have hji97_ : (if 0 < (ji96) then (ji96) else 0) = ji97 := hji97
          obtain ⟨y344, hy344⟩ : ∃ y_ : List Int, y_ = (([] : List Int)) := ⟨_, rfl⟩
          replace H : (if 0 ≤ (ji97) then (if (ji97) ≤ (l1.length : Int) then (if y344.length + (l1.take ((ji97) : Int).toNat).length < 140737488355328 then ((some (y344 ++ (l1.take ((ji97) : Int).toNat) : List Int)).bind fun y348 => (if (ji97) ≤ (l0.length : Int) then (if y348.length + (l0.drop ((ji97) : Int).toNat).length < 140737488355328 then (some (y348 ++ (l0.drop ((ji97) : Int).toNat))) else (none)) else (none))) else (none)) else (none)) else (none)) = some r := by first | (rw [hy344]; with_reducible exact H) | (have H2_ := (Option.bind_some _ _).symm.trans H; rw [hy344]; with_reducible exact H2_) | (have H2_ := (Option.bind_some _ _).symm.trans H; with_reducible exact H2_) | with_reducible exact H | (rw [hy344]; exact H) | exact H
          have Ny344 := Aside0.mk hy344
          clear hy344
          by_cases c98 : 0 ≤ (ji97)
          · rw [if_pos c98] at H
            have c98b0 := eq_true c98
            have c98b1 : decide (0 ≤ (ji97)) = true := decide_eq_true c98
            clear c98
            by_cases c99 : (ji97) ≤ (l1.length : Int)
            · rw [if_pos c99] at H
              have c99b0 := eq_true c99
              have c99b1 : decide ((ji97) ≤ (l1.length : Int)) = true := decide_eq_true c99
              clear c99
              by_cases c100 : y344.length + (l1.take ((ji97) : Int).toNat).length < 140737488355328
              · rw [if_pos c100] at H
                have LMc100 := Aside0.mk c100
                clear c100
                obtain ⟨y348, hy348⟩ : ∃ y_ : List Int, y_ = (y344 ++ (l1.take ((ji97) : Int).toNat)) := ⟨_, rfl⟩
                replace H : (if (ji97) ≤ (l0.length : Int) then (if y348.length + (l0.drop ((ji97) : Int).toNat).length < 140737488355328 then (some (y348 ++ (l0.drop ((ji97) : Int).toNat))) else (none)) else (none)) = some r := by first | (rw [hy348]; with_reducible exact H) | (have H2_ := (Option.bind_some _ _).symm.trans H; rw [hy348]; with_reducible exact H2_) | (have H2_ := (Option.bind_some _ _).symm.trans H; with_reducible exact H2_) | with_reducible exact H | (rw [hy348]; exact H) | exact H
                have Ny348 := Aside0.mk hy348
                clear hy348
                have c101b0 := eq_true (of_decide_eq_true (by first | (with_reducible assumption) | assumption) : 0 ≤ (ji97))
                by_cases c102 : (ji97) ≤ (l0.length : Int)
                · rw [if_pos c102] at H
                  have c102b0 := eq_true c102
                  have c102b1 : decide ((ji97) ≤ (l0.length : Int)) = true := decide_eq_true c102
                  clear c102
                  by_cases c103 : y348.length + (l0.drop ((ji97) : Int).toNat).length < 140737488355328
                  · rw [if_pos c103] at H
                    have LMc103 := Aside0.mk c103
                    clear c103
                    obtain ⟨y352, hy352⟩ : ∃ y_ : List Int, y_ = (y348 ++ (l0.drop ((ji97) : Int).toNat)) := ⟨_, rfl⟩
                    replace H : (some y352) = some r := by first | (rw [hy352]; with_reducible exact H) | (have H2_ := (Option.bind_some _ _).symm.trans H; rw [hy352]; with_reducible exact H2_) | (have H2_ := (Option.bind_some _ _).symm.trans H; with_reducible exact H2_) | with_reducible exact H | (rw [hy352]; exact H) | exact H
                    have Ny352 := Aside0.mk hy352
                    clear hy352
                    obtain rfl := Option.some.inj H
                    go_enter Try.func75, Try.ntmps75
                    try go_wp2
                    have n0_ := Aside0.mk (below_drew1 HB.out)
                    clear HB
                    have HB := n0_
                    clear n0_
                    obtain ⟨i0105, hi0105, _, hsz105, _⟩ := info_parts info5
                    obtain ⟨hcut105, hA105, hC105⟩ := print_take_of (P := Try.prog) (Value.int .u8) 0 42 5 .i64 Try.underlying42 hi0105 hsz105 A1 c1 l1 (ji97) (of_decide_eq_true (by first | (with_reducible assumption) | assumption)) (of_decide_eq_true (by first | (with_reducible assumption) | assumption)) HC1.out
                    have HR347 := Aside0.mk (Kd.C_of_reads (h1 := fun _ => rfl) (hA105 _ (Kd.reads_of_C HR1.out)))
                    have HC347 := Aside0.mk hC105
                    clear hA105 hC105 hi0105 hsz105
                    obtain ⟨i0106, hi0106, _, hsz106, _⟩ := info_parts info5
                    obtain ⟨A106, hcut106, hA106, hC106⟩ := print_drop_of (P := Try.prog) (Value.int .u8) 0 42 5 .i64 Try.underlying42 hi0106 hsz106 A0 c0 l0 (ji97) (of_decide_eq_true (by first | (with_reducible assumption) | assumption)) (of_decide_eq_true (by first | (with_reducible assumption) | assumption)) HC0.out
                    have HR351 := Aside0.mk (Kd.C_of_reads (h1 := fun _ => rfl) (hA106 _ (Kd.reads_of_C HR0.out)))
                    have HC351 := Aside0.mk hC106
                    clear hA106 hC106 hi0106 hsz106
                    refine start_ (n := 10) (S := fun w' => True) (ds := []) #[false, false, false, false, false, false, false, false, false, false] (by kernel_rfl) rfl rfl trivial (fun hHeld => ?_); refine with_tabW impl_Tear.tab8 impl_Tear.bits8 (fun HT_ HW_ => ?_)
                    generalize w.drew = w104 at HB HR347 HR351 hHeld ⊢
                    refine pure_ (i := 1) (N := some 27) (v := ?_) (a' := ?_) #[false, true, false, false, false, false, false, false, false, false] rfl rfl (any_of HT_.out (by kernel_rfl)) (fun _ _ _ h => h) (Or.inl ⟨by rfl, ?_⟩) ?_ ?_
                    rotate_left
                    · intro w'
                      go_simp
                      with_reducible rfl
                    rotate_left
                    · simp only [Act.put, List.setIfInBounds_toArray, List.set_cons_zero, List.set_cons_succ, i64_w, i32_w]
                      rfl
                    refine pure_ (i := 2) (N := some 28) (v := ?_) (a' := ?_) #[false, true, true, false, false, false, false, false, false, false] rfl rfl (any_of HT_.out (by kernel_rfl)) (fun _ _ _ h => h) (Or.inl ⟨by rfl, ?_⟩) ?_ ?_
                    rotate_left
                    · intro w'
                      go_simp
                      with_reducible rfl
                    rotate_left
                    · simp only [Act.put, List.setIfInBounds_toArray, List.set_cons_zero, List.set_cons_succ, i64_w, i32_w]
                      rfl
                    refine pure_ (i := 3) (N := some 29) (v := ?_) (a' := ?_) #[false, true, true, true, false, false, false, false, false, false] rfl rfl (any_of HT_.out (by kernel_rfl)) (fun _ _ _ h => h) (Or.inl ⟨by rfl, ?_⟩) ?_ ?_
                    rotate_left
                    · intro w'
                      go_simp
                      with_reducible rfl
                    rotate_left
                    · simp only [Act.put, List.setIfInBounds_toArray, List.set_cons_zero, List.set_cons_succ, i64_w, i32_w]
                      rfl
                    refine pure_ (i := 5) (N := some 31) (v := ?_) (a' := ?_) #[false, true, true, true, false, true, false, false, false, false] rfl rfl (any_of HT_.out (by kernel_rfl)) (fun _ _ _ h => h) (Or.inl ⟨by rfl, ?_⟩) ?_ ?_
                    rotate_left
                    · intro w'
                      go_simp
                      with_reducible rfl
                    rotate_left
                    · simp only [Act.put, List.setIfInBounds_toArray, List.set_cons_zero, List.set_cons_succ, i64_w, i32_w]
                      rfl
                    refine pure_ (i := 6) (N := some 32) (v := ?_) (a' := ?_) #[false, true, true, true, false, true, true, false, false, false] rfl rfl (any_of HT_.out (by kernel_rfl)) (fun _ _ _ h => h) (Or.inl ⟨by rfl, ?_⟩) ?_ ?_
                    rotate_left
                    · intro w'
                      go_simp
                      with_reducible rfl
                    rotate_left
                    · simp only [Act.put, List.setIfInBounds_toArray, List.set_cons_zero, List.set_cons_succ, i64_w, i32_w]
                      rfl
                    refine pure_ (i := 7) (N := some 33) (v := ?_) (a' := ?_) #[false, true, true, true, false, true, true, true, false, false] rfl rfl (any_of HT_.out (by kernel_rfl)) (fun _ _ _ h => h) (Or.inl ⟨by rfl, ?_⟩) ?_ ?_
                    rotate_left
                    · intro w'
                      go_simp
                      with_reducible rfl
                    rotate_left
                    · simp only [Act.put, List.setIfInBounds_toArray, List.set_cons_zero, List.set_cons_succ, i64_w, i32_w]
                      rfl
                    refine one_ (i := 0) (N := some 26) #[true, true, true, true, false, true, true, true, false, false] rfl rfl (one_of HT_.out (by kernel_rfl)) (by decide) (fun K hK => ?_)
                    refine Kd.R_lit_step (Kd.int .u8) _ 5 ?hg (N := 26) ?hd (xs := ([] : List Int)) (inner := []) (ok := fun _ => True) (okp := fun _ => True) ?hr ?hp (fun _ hk => hk) trivial (Below.refl _ _) (Nat.le_refl _) (by simp) ?_; (case hd => rfl); (case hg => rfl); (case hr => first | (go_simp; done) | (go_simp; rfl)); (case hp => exact (Reps.none _ _))
                    intro v345 w107 ho108 hb hg_ hnew_
                    clear hg_ hnew_
                    (first | rw [← Ny344.out] at ho108 | (simp only [Int.reduceToNat] at ho108; rw [← Ny344.out] at ho108))
                    have n0_ := Aside0.mk (Kd.R_lower ho108 (below_size (by repeat (first | (with_reducible first | exact HB.out | apply below_alloc | apply pw_below_drewN | apply below_drew1) | exact HB.out))))
                    have n1_ := Aside0.mk (below_step (by repeat (first | (with_reducible first | exact HB.out | apply below_alloc | apply pw_below_drewN | apply below_drew1) | exact HB.out)) hb)
                    clear HB
                    have HO346 := n0_
                    have HB := n1_
                    clear n0_ n1_
                    clear hb ho108
                    refine hK.out _ _ trivial (fun hHeld => ?_)
                    clear hK K
                    refine norm_ (a' := ?_) ?_ ?_
                    rotate_left
                    · show Act.put _ (some 26) _ = _
                      simp only [Act.put, List.setIfInBounds_toArray, List.set_cons_zero, List.set_cons_succ, i64_w, i32_w]
                      rfl
                    refine one_ (i := 4) (N := some 30) #[true, true, true, true, true, true, true, true, false, false] rfl rfl (one_of HT_.out (by kernel_rfl)) (by decide) (fun K hK => ?_)
                    refine Kd.R_append_rows_step (Kd.int .u8) (w0 := w) w.heap.size (by rfl) (.tmp 26) (.tmp 29) 42 5 (.int .u8 0) 1 rfl Try.underlying42 info5 rfl (by decide) (by omega) v345 y344 (l1.take ((ji97) : Int).toNat) _ _ _ (fun _ => True) (fun _ => False) rfl rfl ?aO ?aR (fun _ _ h => h) (fun _ h => h.elim) ?aF ?aB ?aS ?aL ?_
                    (case aR => first | (refine cut_len_ ?_ (show (l1.take ((ji97) : Int).toNat).length = (ji97).toNat from (by rw [List.length_take]; have h_ : ((ji97) : Int) ≤ (l1.length : Int) := of_decide_eq_true (by first | (with_reducible assumption) | assumption); omega)); repeat (first | exact (Kd.C_below HR347.out HB.out) | (with_reducible refine Kd.C_alloc ?_ _) | (with_reducible refine Kd.C_drewN ?_ _) | (with_reducible refine Kd.C_drew ?_))) | (repeat (first | exact (Kd.C_below HR347.out HB.out) | (with_reducible refine Kd.C_alloc ?_ _) | (with_reducible refine Kd.C_drewN ?_ _) | (with_reducible refine Kd.C_drew ?_))))
                    (case aB => exact (by repeat (first | (with_reducible first | exact HB.out | apply below_alloc | apply pw_below_drewN | apply below_drew1) | exact HB.out)))
                    (case aF => exact (fun _ _ => trivial))
                    (case aO => exact (by (with_reducible repeat (first | apply Kd.R_alloc | apply Kd.R_drewN | apply Kd.R_drew)); exact HO346.out))
                    (case aS => exact (below_size (by repeat (first | (with_reducible first | exact HB.out | apply below_alloc | apply pw_below_drewN | apply below_drew1) | exact HB.out))))
                    (case aL => have := LMc100.out; have hlx_ := (show (l1.take ((ji97) : Int).toNat).length = (ji97).toNat from (by rw [List.length_take]; have h_ : ((ji97) : Int) ≤ (l1.length : Int) := of_decide_eq_true (by first | (with_reducible assumption) | assumption); omega)); omega)
                    intro v349 w109 ho hb hg hat
                    rw [← Ny348.out] at ho
                    have n0_ := Aside0.mk (hb)
                    have n1_ := Aside0.mk (ho)
                    clear HB
                    clear HO346
                    have HB := n0_
                    have HO350 := n1_
                    clear n0_ n1_
                    clear ho hb hg hat
                    refine hK.out _ _ trivial (fun hHeld => ?_)
                    clear hK K
                    refine norm_ (a' := ?_) ?_ ?_
                    rotate_left
                    · show Act.put _ (some 30) _ = _
                      simp only [Act.put, List.setIfInBounds_toArray, List.set_cons_zero, List.set_cons_succ, i64_w, i32_w]
                      rfl
                    refine one_ (i := 8) (N := some 34) #[true, true, true, true, true, true, true, true, true, false] rfl rfl (one_of HT_.out (by kernel_rfl)) (by decide) (fun K hK => ?_)
                    refine Kd.R_append_rows_step (Kd.int .u8) (w0 := w) w.heap.size (by rfl) (.tmp 30) (.tmp 33) 42 5 (.int .u8 0) 1 rfl Try.underlying42 info5 rfl (by decide) (by omega) v349 y348 (l0.drop ((ji97) : Int).toNat) _ _ _ (fun _ => True) (fun _ => False) rfl rfl ?aO ?aR (fun _ _ h => h) (fun _ h => h.elim) ?aF ?aB ?aS ?aL ?_
                    (case aR => first | (rw [← show (l0.drop ((ji97) : Int).toNat).length = (l0.length - (ji97).toNat) from List.length_drop]; repeat (first | exact (Kd.C_below HR351.out HB.out) | (with_reducible refine Kd.C_alloc ?_ _) | (with_reducible refine Kd.C_drewN ?_ _) | (with_reducible refine Kd.C_drew ?_))) | (repeat (first | exact (Kd.C_below HR351.out HB.out) | (with_reducible refine Kd.C_alloc ?_ _) | (with_reducible refine Kd.C_drewN ?_ _) | (with_reducible refine Kd.C_drew ?_))))
                    (case aB => exact (by repeat (first | (with_reducible first | exact HB.out | apply below_alloc | apply pw_below_drewN | apply below_drew1) | exact HB.out)))
                    (case aF => exact (fun _ _ => trivial))
                    (case aO => exact (by (with_reducible repeat (first | apply Kd.R_alloc | apply Kd.R_drewN | apply Kd.R_drew)); exact HO350.out))
                    (case aS => exact (below_size (by repeat (first | (with_reducible first | exact HB.out | apply below_alloc | apply pw_below_drewN | apply below_drew1) | exact HB.out))))
                    (case aL => have := LMc103.out; have hlx_ := (show (l0.drop ((ji97) : Int).toNat).length = (l0.length - (ji97).toNat) from List.length_drop); omega)
                    intro v353 w110 ho hb hg hat
                    rw [← Ny352.out] at ho
                    have n0_ := Aside0.mk (hb)
                    have n1_ := Aside0.mk (ho)
                    clear HB
                    clear HO350
                    have HB := n0_
                    have HO354 := n1_
                    clear n0_ n1_
                    clear ho hb hg hat
                    refine hK.out _ _ trivial (fun hHeld => ?_)
                    clear hK K
                    refine norm_ (a' := ?_) ?_ ?_
                    rotate_left
                    · show Act.put _ (some 34) _ = _
                      simp only [Act.put, List.setIfInBounds_toArray, List.set_cons_zero, List.set_cons_succ, i64_w, i32_w]
                      rfl
                    refine pure_ (i := 9) (N := some 6) (v := ?_) (a' := ?_) #[true, true, true, true, true, true, true, true, true, true] rfl rfl (any_of HT_.out (by kernel_rfl)) (fun _ _ _ h => h) (Or.inl ⟨by rfl, ?_⟩) ?_ ?_
                    rotate_left
                    · intro w'
                      go_simp
                      with_reducible rfl
                    rotate_left
                    · simp only [Act.put, List.setIfInBounds_toArray, List.set_cons_zero, List.set_cons_succ, i64_w, i32_w]
                      rfl
                    refine done_ (done_of HT_.out (by kernel_rfl)) ?_
                    try go_wp2
                    go_ret
                    exact ⟨_, by first | rfl | (simp [errW_none, errW_some] <;> rfl) | (simp only [← hji96, ← hji97]; first | rfl | (simp [errW_none, errW_some] <;> rfl)) | (simp [*, errW_none, errW_some] <;> rfl), by (with_reducible repeat (first | apply Kd.R_alloc | apply Kd.R_drewN | apply Kd.R_drew)); exact HO354.out, by repeat (first | (with_reducible first | exact HB.out | apply below_alloc | apply pw_below_drewN | apply below_drew1) | exact HB.out)⟩
                  · rw [if_neg c103] at H
                    exact absurd H (by simp)
                · rw [if_neg c102] at H
                  exact absurd H (by simp)
              · rw [if_neg c100] at H
                exact absurd H (by simp)
            · rw [if_neg c99] at H
              exact absurd H (by simp)
          · rw [if_neg c98] at H
            exact absurd H (by simp)
        · rw [if_neg c95] at H
          have c95b0 : ((l1.length : Int) == 512) = false := beq_eq_false_iff_ne.mpr c95
          have c95b1 : ((l1.length : Int) != 512) = true := bne_iff_ne.mpr c95
          obtain rfl := Option.some.inj H
          go_enter Try.func75, Try.ntmps75
          go_wp2
          go_ret
          exact ⟨_, by first | rfl | (simp [errW_none, errW_some] <;> rfl) | (simp [*, errW_none, errW_some] <;> rfl), by first | exact Kd.R_nil _ _ _ _ _ | exact Kd.N_nil _ _ _ _ _ | exact Kd.V_nil _ _ _ _ _ | exact Kd.Q_nil _ _ _ _ _ | exact Kd.S_nil _ _ _ _ _, by repeat (first | (with_reducible first | exact HB.out | apply below_alloc | apply pw_below_drewN | apply below_drew1) | exact HB.out)⟩
      · rw [if_neg c94] at H
        have c94b0 : ((l0.length : Int) == 512) = false := beq_eq_false_iff_ne.mpr c94
        have c94b1 : ((l0.length : Int) != 512) = true := bne_iff_ne.mpr c94
        obtain rfl := Option.some.inj H
        go_enter Try.func75, Try.ntmps75
        go_wp2
        go_ret
        exact ⟨_, by first | rfl | (simp [errW_none, errW_some] <;> rfl) | (simp [*, errW_none, errW_some] <;> rfl), by first | exact Kd.R_nil _ _ _ _ _ | exact Kd.N_nil _ _ _ _ _ | exact Kd.V_nil _ _ _ _ _ | exact Kd.Q_nil _ _ _ _ _ | exact Kd.S_nil _ _ _ _ _, by repeat (first | (with_reducible first | exact HB.out | apply below_alloc | apply pw_below_drewN | apply below_drew1) | exact HB.out)⟩

end Go.Proofs.Ytnklkjkbdipohaa.PFnExactDiskCrash
