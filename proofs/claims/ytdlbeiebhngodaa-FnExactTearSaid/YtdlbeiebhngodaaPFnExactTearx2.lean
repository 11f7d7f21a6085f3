-- A program of this claim's session wrote this text.
import Derived.Test.YtdlbeiebhngodaaPFnExactTearx0
namespace Go.Proofs.Ytdlbeiebhngodaa.PFnExactTear
open Go.RowKit Go.Proofs.YtdlbeiebhngodaaW.PrintWords Go.Proofs.YtdlbeiebhngodaaW.PrintLast Go.Proofs.YtdlbeiebhngodaaW.PrintMore
attribute [local go_sem] max2_int min2_int max_two min_two max_three min_three max_four min_four   -- for this text's walks alone
set_option linter.unusedVariables false
set_option linter.unusedSimpArgs false

theorem cut_len_ {α : Type} {R : α → List Go.Value → Prop} {size : Nat} {w : Go.World} {A : Option Go.Addr} {n m : Nat} {ps : List α} (h : ReadsRow R size w A n ps) (e : n = m) : ReadsRow R size w A m ps := e ▸ h

/-! ### impl_Tear: function 6 -/
def impl_Tear.f (l0 : List Int) (l1 : List Int) (a2 : Int) : Option (List Int) := if (l0.length : Int) = 0 then (if 512 ≤ 281474976710656 then ((some (List.replicate 512 0 : List Int)).bind fun y125 => (if (l1.length : Int) = 0 then ((some (List.replicate 512 0 : List Int)).bind fun y128 => (if (y125.length : Int) = 512 then (if (y128.length : Int) = 512 then ((some (([] : List Int) : List Int)).bind fun y131 => (if 0 ≤ (mx 0 (mn a2 512)) then (if (mx 0 (mn a2 512)) ≤ (y128.length : Int) then ((some (y128.take ((mx 0 (mn a2 512)) : Int).toNat : List Int)).bind fun y134 => (if y131.length + y134.length < 140737488355328 then ((some (y131 ++ y134 : List Int)).bind fun y138 => (if (mx 0 (mn a2 512)) ≤ (y125.length : Int) then ((some (y125.drop ((mx 0 (mn a2 512)) : Int).toNat : List Int)).bind fun y141 => (if y138.length + y141.length < 140737488355328 then (some (y138 ++ y141)) else (none))) else (none))) else (none))) else (none)) else (none))) else (some ([] : List Int))) else (some ([] : List Int)))) else (if (y125.length : Int) = 512 then (if (l1.length : Int) = 512 then ((some (([] : List Int) : List Int)).bind fun y148 => (if 0 ≤ (mx 0 (mn a2 512)) then (if (mx 0 (mn a2 512)) ≤ (l1.length : Int) then (if y148.length + (l1.take ((mx 0 (mn a2 512)) : Int).toNat).length < 140737488355328 then ((some (y148 ++ (l1.take ((mx 0 (mn a2 512)) : Int).toNat) : List Int)).bind fun y152 => (if (mx 0 (mn a2 512)) ≤ (y125.length : Int) then ((some (y125.drop ((mx 0 (mn a2 512)) : Int).toNat : List Int)).bind fun y155 => (if y152.length + y155.length < 140737488355328 then (some (y152 ++ y155)) else (none))) else (none))) else (none)) else (none)) else (none))) else (some ([] : List Int))) else (some ([] : List Int))))) else (none)) else (if (l1.length : Int) = 0 then (if 512 ≤ 281474976710656 then ((some (List.replicate 512 0 : List Int)).bind fun y162 => (if (l0.length : Int) = 512 then (if (y162.length : Int) = 512 then ((some (([] : List Int) : List Int)).bind fun y165 => (if 0 ≤ (mx 0 (mn a2 512)) then (if (mx 0 (mn a2 512)) ≤ (y162.length : Int) then ((some (y162.take ((mx 0 (mn a2 512)) : Int).toNat : List Int)).bind fun y168 => (if y165.length + y168.length < 140737488355328 then ((some (y165 ++ y168 : List Int)).bind fun y172 => (if (mx 0 (mn a2 512)) ≤ (l0.length : Int) then (if y172.length + (l0.drop ((mx 0 (mn a2 512)) : Int).toNat).length < 140737488355328 then (some (y172 ++ (l0.drop ((mx 0 (mn a2 512)) : Int).toNat))) else (none)) else (none))) else (none))) else (none)) else (none))) else (some ([] : List Int))) else (some ([] : List Int)))) else (none)) else (if (l0.length : Int) = 512 then (if (l1.length : Int) = 512 then ((some (([] : List Int) : List Int)).bind fun y179 => (if 0 ≤ (mx 0 (mn a2 512)) then (if (mx 0 (mn a2 512)) ≤ (l1.length : Int) then (if y179.length + (l1.take ((mx 0 (mn a2 512)) : Int).toNat).length < 140737488355328 then ((some (y179 ++ (l1.take ((mx 0 (mn a2 512)) : Int).toNat) : List Int)).bind fun y183 => (if (mx 0 (mn a2 512)) ≤ (l0.length : Int) then (if y183.length + (l0.drop ((mx 0 (mn a2 512)) : Int).toNat).length < 140737488355328 then (some (y183 ++ (l0.drop ((mx 0 (mn a2 512)) : Int).toNat))) else (none)) else (none))) else (none)) else (none)) else (none))) else (some ([] : List Int))) else (some ([] : List Int))))
def impl_Tear.T8 : Bool × List (List Nat × List Nat) := (true, [([], []), ([], []), ([], []), ([1, 2], [1, 2]), ([0, 3], [0, 3]), ([], []), ([], []), ([5, 6], [5, 6]), ([4, 7, 4], [4, 7]), ([8, 8, 0, 1, 2, 3, 4, 5, 6, 7, 8], [8])])
def impl_Tear.B8 : List Nat := [0, 0, 0, 6, 15, 0, 0, 96, 255, 511]
theorem impl_Tear.tab8 : rtab .any (opsOf Try.f6 8) = impl_Tear.T8 := by kernel_rfl
theorem impl_Tear.bits8 : waitsOk impl_Tear.T8.2 impl_Tear.B8 = true := by kernel_rfl
set_option maxHeartbeats 8000000 in
set_option maxRecDepth 100000 in
theorem impl_Tear.calls (A0 : Option Addr) (c0 : Nat) (l0 : List Int) (A1 : Option Addr) (c1 : Nat) (l1 : List Int) (a2 : Int) (r : List Int) (w : World) (hr0 : Kd.C (Kd.int .u8) w A0 l0.length l0) (hc0 : l0.length ≤ c0) (hr1 : Kd.C (Kd.int .u8) w A1 l1.length l1) (hc1 : l1.length ≤ c1) (h : impl_Tear.f l0 l1 a2 = some r) :
    Calls Try.prog 6 #[.slice A0 l0.length c0, .slice A1 l1.length c1, .int .i64 a2] w fun e w' => ∃ v0_ : Value, e = .returned (v0_) ∧ Kd.R (Kd.int .u8) 5 w' w.heap.size (fun _ => True) v0_ r ∧ Below w.heap.size w w' := by
  have HR0 := Aside0.mk hr0
  have HC0 := Aside0.mk hc0
  clear hr0 hc0
  have HR1 := Aside0.mk hr1
  have HC1 := Aside0.mk hc1
  clear hr1 hc1
  have HB := Aside0.mk (Below.refl w.heap.size w)
  have H : (if (l0.length : Int) = 0 then (if 512 ≤ 281474976710656 then ((some (List.replicate 512 0 : List Int)).bind fun y125 => (if (l1.length : Int) = 0 then ((some (List.replicate 512 0 : List Int)).bind fun y128 => (if (y125.length : Int) = 512 then (if (y128.length : Int) = 512 then ((some (([] : List Int) : List Int)).bind fun y131 => (if 0 ≤ (mx 0 (mn a2 512)) then (if (mx 0 (mn a2 512)) ≤ (y128.length : Int) then ((some (y128.take ((mx 0 (mn a2 512)) : Int).toNat : List Int)).bind fun y134 => (if y131.length + y134.length < 140737488355328 then ((some (y131 ++ y134 : List Int)).bind fun y138 => (if (mx 0 (mn a2 512)) ≤ (y125.length : Int) then ((some (y125.drop ((mx 0 (mn a2 512)) : Int).toNat : List Int)).bind fun y141 => (if y138.length + y141.length < 140737488355328 then (some (y138 ++ y141)) else (none))) else (none))) else (none))) else (none)) else (none))) else (some ([] : List Int))) else (some ([] : List Int)))) else (if (y125.length : Int) = 512 then (if (l1.length : Int) = 512 then ((some (([] : List Int) : List Int)).bind fun y148 => (if 0 ≤ (mx 0 (mn a2 512)) then (if (mx 0 (mn a2 512)) ≤ (l1.length : Int) then (if y148.length + (l1.take ((mx 0 (mn a2 512)) : Int).toNat).length < 140737488355328 then ((some (y148 ++ (l1.take ((mx 0 (mn a2 512)) : Int).toNat) : List Int)).bind fun y152 => (if (mx 0 (mn a2 512)) ≤ (y125.length : Int) then ((some (y125.drop ((mx 0 (mn a2 512)) : Int).toNat : List Int)).bind fun y155 => (if y152.length + y155.length < 140737488355328 then (some (y152 ++ y155)) else (none))) else (none))) else (none)) else (none)) else (none))) else (some ([] : List Int))) else (some ([] : List Int))))) else (none)) else (if (l1.length : Int) = 0 then (if 512 ≤ 281474976710656 then ((some (List.replicate 512 0 : List Int)).bind fun y162 => (if (l0.length : Int) = 512 then (if (y162.length : Int) = 512 then ((some (([] : List Int) : List Int)).bind fun y165 => (if 0 ≤ (mx 0 (mn a2 512)) then (if (mx 0 (mn a2 512)) ≤ (y162.length : Int) then ((some (y162.take ((mx 0 (mn a2 512)) : Int).toNat : List Int)).bind fun y168 => (if y165.length + y168.length < 140737488355328 then ((some (y165 ++ y168 : List Int)).bind fun y172 => (if (mx 0 (mn a2 512)) ≤ (l0.length : Int) then (if y172.length + (l0.drop ((mx 0 (mn a2 512)) : Int).toNat).length < 140737488355328 then (some (y172 ++ (l0.drop ((mx 0 (mn a2 512)) : Int).toNat))) else (none)) else (none))) else (none))) else (none)) else (none))) else (some ([] : List Int))) else (some ([] : List Int)))) else (none)) else (if (l0.length : Int) = 512 then (if (l1.length : Int) = 512 then ((some (([] : List Int) : List Int)).bind fun y179 => (if 0 ≤ (mx 0 (mn a2 512)) then (if (mx 0 (mn a2 512)) ≤ (l1.length : Int) then (if y179.length + (l1.take ((mx 0 (mn a2 512)) : Int).toNat).length < 140737488355328 then ((some (y179 ++ (l1.take ((mx 0 (mn a2 512)) : Int).toNat) : List Int)).bind fun y183 => (if (mx 0 (mn a2 512)) ≤ (l0.length : Int) then (if y183.length + (l0.drop ((mx 0 (mn a2 512)) : Int).toNat).length < 140737488355328 then (some (y183 ++ (l0.drop ((mx 0 (mn a2 512)) : Int).toNat))) else (none)) else (none))) else (none)) else (none)) else (none))) else (some ([] : List Int))) else (some ([] : List Int))))) = some r := h
  clear h
  by_cases c4 : (l0.length : Int) = 0
  · rw [if_pos c4] at H
    have c4b0 : ((l0.length : Int) == 0) = true := beq_iff_eq.mpr c4
    have c4b1 : ((l0.length : Int) != 0) = false := bne_eq_false_iff_eq.mpr c4
    clear c4
    by_cases c5 : 512 ≤ 281474976710656
    · rw [if_pos c5] at H
      have c5b0 := eq_true c5
      have c5b1 : decide (512 ≤ 281474976710656) = true := decide_eq_true c5
      clear c5
      obtain ⟨y125, hy125⟩ : ∃ y_ : List Int, y_ = (List.replicate 512 0) := ⟨_, rfl⟩
      replace H : (if (l1.length : Int) = 0 then ((some (List.replicate 512 0 : List Int)).bind fun y128 => (if (y125.length : Int) = 512 then (if (y128.length : Int) = 512 then ((some (([] : List Int) : List Int)).bind fun y131 => (if 0 ≤ (mx 0 (mn a2 512)) then (if (mx 0 (mn a2 512)) ≤ (y128.length : Int) then ((some (y128.take ((mx 0 (mn a2 512)) : Int).toNat : List Int)).bind fun y134 => (if y131.length + y134.length < 140737488355328 then ((some (y131 ++ y134 : List Int)).bind fun y138 => (if (mx 0 (mn a2 512)) ≤ (y125.length : Int) then ((some (y125.drop ((mx 0 (mn a2 512)) : Int).toNat : List Int)).bind fun y141 => (if y138.length + y141.length < 140737488355328 then (some (y138 ++ y141)) else (none))) else (none))) else (none))) else (none)) else (none))) else (some ([] : List Int))) else (some ([] : List Int)))) else (if (y125.length : Int) = 512 then (if (l1.length : Int) = 512 then ((some (([] : List Int) : List Int)).bind fun y148 => (if 0 ≤ (mx 0 (mn a2 512)) then (if (mx 0 (mn a2 512)) ≤ (l1.length : Int) then (if y148.length + (l1.take ((mx 0 (mn a2 512)) : Int).toNat).length < 140737488355328 then ((some (y148 ++ (l1.take ((mx 0 (mn a2 512)) : Int).toNat) : List Int)).bind fun y152 => (if (mx 0 (mn a2 512)) ≤ (y125.length : Int) then ((some (y125.drop ((mx 0 (mn a2 512)) : Int).toNat : List Int)).bind fun y155 => (if y152.length + y155.length < 140737488355328 then (some (y152 ++ y155)) else (none))) else (none))) else (none)) else (none)) else (none))) else (some ([] : List Int))) else (some ([] : List Int)))) = some r := by first | (rw [hy125]; with_reducible exact H) | (have H2_ := (Option.bind_some _ _).symm.trans H; rw [hy125]; with_reducible exact H2_) | (have H2_ := (Option.bind_some _ _).symm.trans H; with_reducible exact H2_) | with_reducible exact H | (rw [hy125]; exact H) | exact H
      have Ny125 := Aside0.mk hy125
      clear hy125
      by_cases c6 : (l1.length : Int) = 0
      · rw [if_pos c6] at H
        have c6b0 : ((l1.length : Int) == 0) = true := beq_iff_eq.mpr c6
        have c6b1 : ((l1.length : Int) != 0) = false := bne_eq_false_iff_eq.mpr c6
        clear c6
        obtain ⟨y128, hy128⟩ : ∃ y_ : List Int, y_ = (List.replicate 512 0) := ⟨_, rfl⟩
        replace H : (if (y125.length : Int) = 512 then (if (y128.length : Int) = 512 then ((some (([] : List Int) : List Int)).bind fun y131 => (if 0 ≤ (mx 0 (mn a2 512)) then (if (mx 0 (mn a2 512)) ≤ (y128.length : Int) then ((some (y128.take ((mx 0 (mn a2 512)) : Int).toNat : List Int)).bind fun y134 => (if y131.length + y134.length < 140737488355328 then ((some (y131 ++ y134 : List Int)).bind fun y138 => (if (mx 0 (mn a2 512)) ≤ (y125.length : Int) then ((some (y125.drop ((mx 0 (mn a2 512)) : Int).toNat : List Int)).bind fun y141 => (if y138.length + y141.length < 140737488355328 then (some (y138 ++ y141)) else (none))) else (none))) else (none))) else (none)) else (none))) else (some ([] : List Int))) else (some ([] : List Int))) = some r := by first | (rw [hy128]; with_reducible exact H) | (have H2_ := (Option.bind_some _ _).symm.trans H; rw [hy128]; with_reducible exact H2_) | (have H2_ := (Option.bind_some _ _).symm.trans H; with_reducible exact H2_) | with_reducible exact H | (rw [hy128]; exact H) | exact H
        have Ny128 := Aside0.mk hy128
        clear hy128
        by_cases c7 : (y125.length : Int) = 512
        · rw [if_pos c7] at H
          have c7b0 : ((y125.length : Int) == 512) = true := beq_iff_eq.mpr c7
          have c7b1 : ((y125.length : Int) != 512) = false := bne_eq_false_iff_eq.mpr c7
          clear c7
          by_cases c8 : (y128.length : Int) = 512
          · rw [if_pos c8] at H
            have c8b0 : ((y128.length : Int) == 512) = true := beq_iff_eq.mpr c8
            have c8b1 : ((y128.length : Int) != 512) = false := bne_eq_false_iff_eq.mpr c8
            clear c8
            obtain ⟨ji9, hji9⟩ : ∃ j_ : Int, (mn a2 512) = j_ := ⟨_, rfl⟩
            replace H : ((some (([] : List Int) : List Int)).bind fun y131 => (if 0 ≤ (mx 0 (ji9)) then (if (mx 0 (ji9)) ≤ (y128.length : Int) then ((some (y128.take ((mx 0 (ji9)) : Int).toNat : List Int)).bind fun y134 => (if y131.length + y134.length < 140737488355328 then ((some (y131 ++ y134 : List Int)).bind fun y138 => (if (mx 0 (ji9)) ≤ (y125.length : Int) then ((some (y125.drop ((mx 0 (ji9)) : Int).toNat : List Int)).bind fun y141 => (if y138.length + y141.length < 140737488355328 then (some (y138 ++ y141)) else (none))) else (none))) else (none))) else (none)) else (none))) = some r := by first | (rw [hji9] at H; exact H) | (simp only [hji9] at H ⊢; exact H)
            (try (have hji9h : ji9 ≤ 512 := by (rw [← hji9]; unfold mn; (repeat' split) <;> omega)))
            (try (have hji9g : ji9 ≤ 64 := by omega))
            have hji9_ : (if 512 < a2 then 512 else a2) = ji9 := hji9
            obtain ⟨ji10, hji10⟩ : ∃ j_ : Int, (mx 0 (ji9)) = j_ := ⟨_, rfl⟩
            replace H : ((some (([] : List Int) : List Int)).bind fun y131 => (if 0 ≤ (ji10) then (if (ji10) ≤ (y128.length : Int) then ((some (y128.take ((ji10) : Int).toNat : List Int)).bind fun y134 => (if y131.length + y134.length < 140737488355328 then ((some (y131 ++ y134 : List Int)).bind fun y138 => (if (ji10) ≤ (y125.length : Int) then ((some (y125.drop ((ji10) : Int).toNat : List Int)).bind fun y141 => (if y138.length + y141.length < 140737488355328 then (some (y138 ++ y141)) else (none))) else (none))) else (none))) else (none)) else (none))) = some r := by first | (rw [hji10] at H; exact H) | (simp only [hji10] at H ⊢; exact H)
            have hji10_ : (if 0 < (ji9) then (ji9) else 0) = ji10 := hji10
            obtain ⟨y131, hy131⟩ : ∃ y_ : List Int, y_ = (([] : List Int)) := ⟨_, rfl⟩
            replace H : (if 0 ≤ (ji10) then (if (ji10) ≤ (y128.length : Int) then ((some (y128.take ((ji10) : Int).toNat : List Int)).bind fun y134 => (if y131.length + y134.length < 140737488355328 then ((some (y131 ++ y134 : List Int)).bind fun y138 => (if (ji10) ≤ (y125.length : Int) then ((some (y125.drop ((ji10) : Int).toNat : List Int)).bind fun y141 => (if y138.length + y141.length < 140737488355328 then (some (y138 ++ y141)) else (none))) else (none))) else (none))) else (none)) else (none)) = some r := by first | (rw [hy131]; with_reducible exact H) | (have H2_ := (Option.bind_some _ _).symm.trans H; rw [hy131]; with_reducible exact H2_) | (have H2_ := (Option.bind_some _ _).symm.trans H; with_reducible exact H2_) | with_reducible exact H | (rw [hy131]; exact H) | exact H
            have Ny131 := Aside0.mk hy131
            clear hy131
            by_cases c11 : 0 ≤ (ji10)
            · rw [if_pos c11] at H
              have c11b0 := eq_true c11
              have c11b1 : decide (0 ≤ (ji10)) = true := decide_eq_true c11
              clear c11
              by_cases c12 : (ji10) ≤ (y128.length : Int)
              · rw [if_pos c12] at H
                have c12b0 := eq_true c12
                have c12b1 : decide ((ji10) ≤ (y128.length : Int)) = true := decide_eq_true c12
                clear c12
                obtain ⟨y134, hy134⟩ : ∃ y_ : List Int, y_ = (y128.take ((ji10) : Int).toNat) := ⟨_, rfl⟩
                replace H : (if y131.length + y134.length < 140737488355328 then ((some (y131 ++ y134 : List Int)).bind fun y138 => (if (ji10) ≤ (y125.length : Int) then ((some (y125.drop ((ji10) : Int).toNat : List Int)).bind fun y141 => (if y138.length + y141.length < 140737488355328 then (some (y138 ++ y141)) else (none))) else (none))) else (none)) = some r := by first | (rw [hy134]; with_reducible exact H) | (have H2_ := (Option.bind_some _ _).symm.trans H; rw [hy134]; with_reducible exact H2_) | (have H2_ := (Option.bind_some _ _).symm.trans H; with_reducible exact H2_) | with_reducible exact H | (rw [hy134]; exact H) | exact H
                have Ny134 := Aside0.mk hy134
                clear hy134
                by_cases c13 : y131.length + y134.length < 140737488355328
                · rw [if_pos c13] at H
                  have LMc13 := Aside0.mk c13
                  clear c13
                  obtain ⟨y138, hy138⟩ : ∃ y_ : List Int, y_ = (y131 ++ y134) := ⟨_, rfl⟩
                  replace H : (if (ji10) ≤ (y125.length : Int) then ((some (y125.drop ((ji10) : Int).toNat : List Int)).bind fun y141 => (if y138.length + y141.length < 140737488355328 then (some (y138 ++ y141)) else (none))) else (none)) = some r := by first | (rw [hy138]; with_reducible exact H) | (have H2_ := (Option.bind_some _ _).symm.trans H; rw [hy138]; with_reducible exact H2_) | (have H2_ := (Option.bind_some _ _).symm.trans H; with_reducible exact H2_) | with_reducible exact H | (rw [hy138]; exact H) | exact H
                  have Ny138 := Aside0.mk hy138
                  clear hy138
                  have c14b0 := eq_true (of_decide_eq_true (by first | (with_reducible assumption) | assumption) : 0 ≤ (ji10))
                  by_cases c15 : (ji10) ≤ (y125.length : Int)
                  · rw [if_pos c15] at H
                    have c15b0 := eq_true c15
                    have c15b1 : decide ((ji10) ≤ (y125.length : Int)) = true := decide_eq_true c15
                    clear c15
                    obtain ⟨y141, hy141⟩ : ∃ y_ : List Int, y_ = (y125.drop ((ji10) : Int).toNat) := ⟨_, rfl⟩
                    replace H : (if y138.length + y141.length < 140737488355328 then (some (y138 ++ y141)) else (none)) = some r := by first | (rw [hy141]; with_reducible exact H) | (have H2_ := (Option.bind_some _ _).symm.trans H; rw [hy141]; with_reducible exact H2_) | (have H2_ := (Option.bind_some _ _).symm.trans H; with_reducible exact H2_) | with_reducible exact H | (rw [hy141]; exact H) | exact H
                    have Ny141 := Aside0.mk hy141
                    clear hy141
                    by_cases c16 : y138.length + y141.length < 140737488355328
                    · rw [if_pos c16] at H
                      have LMc16 := Aside0.mk c16
                      clear c16
                      obtain ⟨y145, hy145⟩ : ∃ y_ : List Int, y_ = (y138 ++ y141) := ⟨_, rfl⟩
                      replace H : (some y145) = some r := by first | (rw [hy145]; with_reducible exact H) | (have H2_ := (Option.bind_some _ _).symm.trans H; rw [hy145]; with_reducible exact H2_) | (have H2_ := (Option.bind_some _ _).symm.trans H; with_reducible exact H2_) | with_reducible exact H | (rw [hy145]; exact H) | exact H
                      have Ny145 := Aside0.mk hy145
                      clear hy145
                      obtain rfl := Option.some.inj H
                      go_enter Try.func6, Try.ntmps6
                      try go_wp2_with (first | ((with_reducible refine gate_dst (N := 10) rfl ?_); (try (refine gate_guard (by rfl) ?_; dsimp only)); refine Kd.R_make (Kd.int .u8) _ 5 rfl (N := 10) rfl 22 _ _ rfl 512 rfl rfl Try.underlying22 (.int .u8 0) 1 info5 rfl (by decide) (by omega) 0 (ok := fun _ => True) (okp := fun _ => True) rfl (fun _ hk => hk) trivial (by omega) (by omega) (Below.refl _ _) (Nat.le_refl _) ?_; intro v126 w17 ho18 hb hg_ hnew_; clear hg_ hnew_; (first | rw [← Ny125.out] at ho18 | (simp only [Int.reduceToNat] at ho18; rw [← Ny125.out] at ho18)); have n0_ := Aside0.mk (Kd.R_lower ho18 (below_size (by repeat (first | (with_reducible first | exact HB.out | apply below_alloc | apply pw_below_drewN | apply below_drew1) | exact HB.out)))); have n1_ := Aside0.mk (below_step (by repeat (first | (with_reducible first | exact HB.out | apply below_alloc | apply pw_below_drewN | apply below_drew1) | exact HB.out)) hb); clear HB; have HO127 := n0_; have HB := n1_; clear n0_ n1_; clear hb ho18) | ((with_reducible refine gate_dst (N := 14) rfl ?_); (try (refine gate_guard (by rfl) ?_; dsimp only)); refine Kd.R_make (Kd.int .u8) _ 5 rfl (N := 14) rfl 22 _ _ rfl 512 rfl rfl Try.underlying22 (.int .u8 0) 1 info5 rfl (by decide) (by omega) 0 (ok := fun _ => True) (okp := fun _ => True) rfl (fun _ hk => hk) trivial (by omega) (by omega) (Below.refl _ _) (Nat.le_refl _) ?_; intro v129 w19 ho20 hb hg_ hnew_; clear hg_ hnew_; (first | rw [← Ny128.out] at ho20 | (simp only [Int.reduceToNat] at ho20; rw [← Ny128.out] at ho20)); have n0_ := Aside0.mk (Kd.R_elder' (by (with_reducible repeat (first | apply Kd.R_alloc | apply Kd.R_drewN | apply Kd.R_drew)); exact HO127.out) (Kd.R_base ho20) hb); have n1_ := Aside0.mk (Kd.R_lower (Kd.R_new' ho20 (Kd.R_lt (by (with_reducible repeat (first | apply Kd.R_alloc | apply Kd.R_drewN | apply Kd.R_drew)); exact HO127.out))) (below_size (by repeat (first | (with_reducible first | exact HB.out | apply below_alloc | apply pw_below_drewN | apply below_drew1) | exact HB.out)))); have n2_ := Aside0.mk (below_step (by repeat (first | (with_reducible first | exact HB.out | apply below_alloc | apply pw_below_drewN | apply below_drew1) | exact HB.out)) hb); clear HO127; clear HB; have HO127 := n0_; have HO130 := n1_; have HB := n2_; clear n0_ n1_ n2_; clear hb ho20; obtain ⟨Ao21, co21, eo21⟩ := Kd.R_slice HO127.out; subst eo21; obtain ⟨Ao22, co22, eo22⟩ := Kd.R_slice HO130.out; subst eo22))
                      have n0_ := Aside0.mk (Kd.R_drew HO127.out)
                      have n1_ := Aside0.mk (Kd.R_drew HO130.out)
                      have n2_ := Aside0.mk (below_drew1 HB.out)
                      clear HO127
                      clear HO130
                      clear HB
                      have HO127 := n0_
                      have HO130 := n1_
                      have HB := n2_
                      clear n0_ n1_ n2_
                      have q24 : ((ji10) : Int) ≤ ((y128.length : Int) : Int) := of_decide_eq_true (by first | (with_reducible assumption) | assumption)
                      obtain ⟨i024, hi024, _, hsz24, _⟩ := info_parts info5
                      have hroom24 : y128.length ≤ co22 := (Kd.R_reads' HO130.out).2.1
                      have hC24 : Kd.C (Kd.int .u8) _ Ao22 y128.length y128 := (Kd.R_reads' HO130.out).2.2
                      have hcut24 := cut_to (P := Try.prog) 22 5 .i64 Try.underlying22 hi024 Ao22 y128.length co22 (ji10) (of_decide_eq_true (by first | (with_reducible assumption) | assumption)) q24 hroom24
                      have hr24 := Kd.C_take (m := ((ji10) : Int).toNat) hC24 (by omega)
                      have hy24 : y134.length = ((ji10) : Int).toNat := (by rw [Ny134.out, List.length_take]; omega)
                      rw [← Ny134.out] at hr24
                      rw [← hy24] at hcut24
                      have HR137 := Aside0.mk hr24
                      have HC137 := Aside0.mk (show y134.length ≤ co22 from by omega)
                      clear hr24 hC24 hroom24 hi024 hsz24
                      have KY24 := Aside0.mk hy24
                      clear hy24
                      have KL24 := Aside0.mk (show ((ji10) : Int).toNat ≤ y128.length from by omega)
                      replace q24 := eq_true q24
                      have q25 : ((ji10) : Int) ≤ ((y125.length : Int) : Int) := of_decide_eq_true (by first | (with_reducible assumption) | assumption)
                      obtain ⟨i025, hi025, _, hsz25, _⟩ := info_parts info5
                      have hroom25 : y125.length ≤ co21 := (Kd.R_reads' HO127.out).2.1
                      have hC25 : Kd.C (Kd.int .u8) _ Ao21 y125.length y125 := (Kd.R_reads' HO127.out).2.2
                      have q025 : (0 : Int) ≤ ((ji10) : Int) := of_decide_eq_true (by first | (with_reducible assumption) | assumption)
                      have hcut25 := cut_from (P := Try.prog) 22 5 .i64 Try.underlying22 hi025 1 hsz25 Ao21 y125.length co21 (ji10) q025 q25
                      have hr25 := Kd.C_drop (m := ((ji10) : Int).toNat) (c := co21) hC25 (by omega) hroom25
                      obtain ⟨A25, hA25⟩ : ∃ A1, A1 = (if co21 = ((ji10) : Int).toNat then Ao21 else (Ao21 : Option Addr).map (·.add (((ji10) : Int).toNat * 1))) := ⟨_, rfl⟩
                      obtain ⟨c25, hc25⟩ : ∃ c1, c1 = co21 - ((ji10) : Int).toNat := ⟨_, rfl⟩
                      have hy25 : y141.length = y125.length - ((ji10) : Int).toNat := (by rw [Ny141.out, List.length_drop] <;> omega)
                      rw [show (y125).drop ((ji10) : Int).toNat = y141 from Ny141.out.symm] at hr25
                      replace hr25 : Kd.C (Kd.int .u8) _ A25 y141.length y141 := (by rw [hA25]; exact hr25)
                      rw [← hy25, ← hA25, ← hc25] at hcut25
                      have HR144 := Aside0.mk hr25
                      have HC144 := Aside0.mk (show y141.length ≤ c25 from by rw [hy25, hc25]; exact Nat.sub_le_sub_right hroom25 _)
                      clear hr25 hC25 hroom25 hi025 hsz25 hc25
                      have KY25 := Aside0.mk hy25
                      have KA25 := Aside0.mk hA25
                      clear hy25 hA25
                      have KL25 := Aside0.mk (show ((ji10) : Int).toNat ≤ y125.length from by omega)
                      replace q25 := eq_true q25
                      refine start_ (n := 10) (S := fun w' => True) (ds := []) #[false, false, false, false, false, false, false, false, false, false] (by kernel_rfl) rfl rfl trivial (fun hHeld => ?_); refine with_tabW impl_Tear.tab8 impl_Tear.bits8 (fun HT_ HW_ => ?_)
                      generalize w19.drew = w23 at HO127 HO130 HB HR137 HR144 hHeld ⊢
                      refine pure_ (i := 1) (N := some 27) (v := ?_) (a' := ?_) #[false, true, false, false, false, false, false, false, false, false] rfl rfl (any_of HT_.out (by kernel_rfl)) (fun _ _ _ h => h) (Or.inl ⟨by rfl, ?_⟩) ?_ ?_
                      rotate_left
                      · intro w'
                        go_simp
                        with_reducible rfl
                      rotate_left
                      · simp only [Act.put, List.setIfInBounds_toArray, List.set_cons_zero, List.set_cons_succ, i64_w, i32_w]
                        rfl
                      refine pure_ (i := 2) (N := some 28) (v := ?_) (a' := ?_) #[false, true, true, false, false, false, false, false, false, false] rfl rfl (any_of HT_.out (by kernel_rfl)) (fun _ _ _ h => h) (Or.inl ⟨by rfl, ?_⟩) ?_ ?_
                      rotate_left
                      · intro w'
                        go_simp
                        with_reducible rfl
                      rotate_left
                      · simp only [Act.put, List.setIfInBounds_toArray, List.set_cons_zero, List.set_cons_succ, i64_w, i32_w]
                        rfl
                      refine pure_ (i := 3) (N := some 29) (v := ?_) (a' := ?_) #[false, true, true, true, false, false, false, false, false, false] rfl rfl (any_of HT_.out (by kernel_rfl)) (fun _ _ _ h => h) (Or.inl ⟨by rfl, ?_⟩) ?_ ?_
                      rotate_left
                      · intro w'
                        go_simp
                        with_reducible rfl
                      rotate_left
                      · simp only [Act.put, List.setIfInBounds_toArray, List.set_cons_zero, List.set_cons_succ, i64_w, i32_w]
                        rfl
                      refine pure_ (i := 5) (N := some 31) (v := ?_) (a' := ?_) #[false, true, true, true, false, true, false, false, false, false] rfl rfl (any_of HT_.out (by kernel_rfl)) (fun _ _ _ h => h) (Or.inl ⟨by rfl, ?_⟩) ?_ ?_
                      rotate_left
                      · intro w'
                        go_simp
                        with_reducible rfl
                      rotate_left
                      · simp only [Act.put, List.setIfInBounds_toArray, List.set_cons_zero, List.set_cons_succ, i64_w, i32_w]
                        rfl
                      refine pure_ (i := 6) (N := some 32) (v := ?_) (a' := ?_) #[false, true, true, true, false, true, true, false, false, false] rfl rfl (any_of HT_.out (by kernel_rfl)) (fun _ _ _ h => h) (Or.inl ⟨by rfl, ?_⟩) ?_ ?_
                      rotate_left
                      · intro w'
                        go_simp
                        with_reducible rfl
                      rotate_left
                      · simp only [Act.put, List.setIfInBounds_toArray, List.set_cons_zero, List.set_cons_succ, i64_w, i32_w]
                        rfl
                      refine pure_ (i := 7) (N := some 33) (v := ?_) (a' := ?_) #[false, true, true, true, false, true, true, true, false, false] rfl rfl (any_of HT_.out (by kernel_rfl)) (fun _ _ _ h => h) (Or.inl ⟨by rfl, ?_⟩) ?_ ?_
                      rotate_left
                      · intro w'
                        go_simp
                        with_reducible rfl
                      rotate_left
                      · simp only [Act.put, List.setIfInBounds_toArray, List.set_cons_zero, List.set_cons_succ, i64_w, i32_w]
                        rfl
                      refine one_ (i := 0) (N := some 26) #[true, true, true, true, false, true, true, true, false, false] rfl rfl (one_of HT_.out (by kernel_rfl)) (by decide) (fun K hK => ?_)
                      refine Kd.R_lit_step (Kd.int .u8) _ 5 ?hg (N := 26) ?hd (xs := ([] : List Int)) (inner := []) (ok := fun _ => True) (okp := fun _ => True) ?hr ?hp (fun _ hk => hk) trivial (Below.refl _ _) (Nat.le_refl _) (by simp) ?_; (case hd => rfl); (case hg => rfl); (case hr => first | (go_simp; done) | (go_simp; rfl)); (case hp => exact (Reps.none _ _))
                      intro v132 w26 ho27 hb hg_ hnew_
                      clear hg_ hnew_
                      (first | rw [← Ny131.out] at ho27 | (simp only [Int.reduceToNat] at ho27; rw [← Ny131.out] at ho27))
                      have n0_ := Aside0.mk (Kd.R_elder' (by (with_reducible repeat (first | apply Kd.R_alloc | apply Kd.R_drewN | apply Kd.R_drew)); exact HO127.out) (Kd.R_base ho27) hb)
                      have n1_ := Aside0.mk (Kd.R_elder' (by (with_reducible repeat (first | apply Kd.R_alloc | apply Kd.R_drewN | apply Kd.R_drew)); exact HO130.out) (Kd.R_base ho27) hb)
                      have n2_ := Aside0.mk (Kd.R_lower (Kd.R_new' (Kd.R_new' ho27 (Kd.R_lt (by (with_reducible repeat (first | apply Kd.R_alloc | apply Kd.R_drewN | apply Kd.R_drew)); exact HO127.out))) (Kd.R_lt (by (with_reducible repeat (first | apply Kd.R_alloc | apply Kd.R_drewN | apply Kd.R_drew)); exact HO130.out))) (below_size (by repeat (first | (with_reducible first | exact HB.out | apply below_alloc | apply pw_below_drewN | apply below_drew1) | exact HB.out))))
                      have n3_ := Aside0.mk (Kd.C_below (by repeat (first | (with_reducible exact HR137.out) | (with_reducible refine Kd.C_alloc ?_ _) | (with_reducible refine Kd.C_drewN ?_ _) | (with_reducible refine Kd.C_drew ?_) | exact HR137.out)) hb)
                      have n4_ := Aside0.mk (Kd.C_below (by repeat (first | (with_reducible exact HR144.out) | (with_reducible refine Kd.C_alloc ?_ _) | (with_reducible refine Kd.C_drewN ?_ _) | (with_reducible refine Kd.C_drew ?_) | exact HR144.out)) hb)
                      have n5_ := Aside0.mk (below_step (by repeat (first | (with_reducible first | exact HB.out | apply below_alloc | apply pw_below_drewN | apply below_drew1) | exact HB.out)) hb)
                      clear HO127
                      clear HO130
                      clear HR137
                      clear HR144
                      clear HB
                      have HO127 := n0_
                      have HO130 := n1_
                      have HO133 := n2_
                      have HR137 := n3_
                      have HR144 := n4_
                      have HB := n5_
                      clear n0_ n1_ n2_ n3_ n4_ n5_
                      clear hb ho27
                      refine hK.out _ _ trivial (fun hHeld => ?_)
                      clear hK K
                      refine norm_ (a' := ?_) ?_ ?_
                      rotate_left
                      · show Act.put _ (some 26) _ = _
                        simp only [Act.put, List.setIfInBounds_toArray, List.set_cons_zero, List.set_cons_succ, i64_w, i32_w]
                        rfl
                      refine one_ (i := 4) (N := some 30) #[true, true, true, true, true, true, true, true, false, false] rfl rfl (one_of HT_.out (by kernel_rfl)) (by decide) (fun K hK => ?_)
                      refine Kd.R_append_rows_step (Kd.int .u8) (w0 := w) w.heap.size (by rfl) (.tmp 26) (.tmp 29) 22 5 (.int .u8 0) 1 rfl Try.underlying22 info5 rfl (by decide) (by omega) v132 y131 y134 _ _ _ (fun k_ => some k_ ≠ (.slice Ao21 y125.length co21 : Value).ownBlock ∧ some k_ ≠ (.slice Ao22 y128.length co22 : Value).ownBlock) (fun _ => False) rfl rfl ?aO ?aR (fun _ _ h => h) (fun _ h => h.elim) ?aF ?aB ?aS ?aL ?_
                      (case aR => repeat (first | exact (by repeat (first | (with_reducible exact HR137.out) | (with_reducible refine Kd.C_alloc ?_ _) | (with_reducible refine Kd.C_drewN ?_ _) | (with_reducible refine Kd.C_drew ?_) | exact HR137.out)) | (with_reducible refine Kd.C_alloc ?_ _) | (with_reducible refine Kd.C_drewN ?_ _) | (with_reducible refine Kd.C_drew ?_)))
                      (case aB => exact (by repeat (first | (with_reducible first | exact HB.out | apply below_alloc | apply pw_below_drewN | apply below_drew1) | exact HB.out)))
                      (case aF => exact (fun k_ hk => ⟨Kd.fresh' (Kd.R_lt (by (with_reducible repeat (first | apply Kd.R_alloc | apply Kd.R_drewN | apply Kd.R_drew)); exact HO127.out)) k_ hk, Kd.fresh' (Kd.R_lt (by (with_reducible repeat (first | apply Kd.R_alloc | apply Kd.R_drewN | apply Kd.R_drew)); exact HO130.out)) k_ hk⟩))
                      (case aO => exact (by (with_reducible repeat (first | apply Kd.R_alloc | apply Kd.R_drewN | apply Kd.R_drew)); exact Kd.R_mono HO133.out (fun _ hk => ⟨hk.1.2, hk.2⟩)))
                      (case aS => exact (below_size (by repeat (first | (with_reducible first | exact HB.out | apply below_alloc | apply pw_below_drewN | apply below_drew1) | exact HB.out))))
                      (case aL => have := LMc13.out; omega)
                      intro v139 w28 ho hb hg hat
                      rw [← Ny138.out] at ho
                      have n0_ := Aside0.mk (Kd.R_after (ok := (fun k_ => some k_ ≠ (.slice Ao22 y128.length co22 : Value).ownBlock)) (by (with_reducible repeat (first | apply Kd.R_alloc | apply Kd.R_drewN | apply Kd.R_drew)); exact Kd.R_mono HO127.out (fun _ hk => ⟨hk.1.2, hk.2⟩)) hg hat)
                      have n1_ := Aside0.mk (Kd.R_after (ok := (fun k_ => some k_ ≠ (.slice Ao21 y125.length co21 : Value).ownBlock)) (by (with_reducible repeat (first | apply Kd.R_alloc | apply Kd.R_drewN | apply Kd.R_drew)); exact Kd.R_mono HO130.out (fun _ hk => ⟨hk.1.2, hk.2⟩)) hg hat)
                      have n2_ := Aside0.mk (hb)
                      have n3_ := Aside0.mk ((show Kd.C (Kd.int .u8) w28 Ao22 y134.length y134 from by rw [Ny134.out]; exact Kd.C_take (m := ((ji10) : Int).toNat) ((Kd.R_reads' (Kd.R_after (ok := (fun k_ => some k_ ≠ (.slice Ao21 y125.length co21 : Value).ownBlock)) (by (with_reducible repeat (first | apply Kd.R_alloc | apply Kd.R_drewN | apply Kd.R_drew)); exact Kd.R_mono HO130.out (fun _ hk => ⟨hk.1.2, hk.2⟩)) hg hat)).2.2) KL24.out))
                      have n4_ := Aside0.mk ((show Kd.C (Kd.int .u8) w28 A25 y141.length y141 from by rw [Ny141.out, KA25.out]; exact Kd.C_drop (m := ((ji10) : Int).toNat) (c := co21) ((Kd.R_reads' (Kd.R_after (ok := (fun k_ => some k_ ≠ (.slice Ao22 y128.length co22 : Value).ownBlock)) (by (with_reducible repeat (first | apply Kd.R_alloc | apply Kd.R_drewN | apply Kd.R_drew)); exact Kd.R_mono HO127.out (fun _ hk => ⟨hk.1.2, hk.2⟩)) hg hat)).2.2) KL25.out ((Kd.R_reads' (Kd.R_after (ok := (fun k_ => some k_ ≠ (.slice Ao22 y128.length co22 : Value).ownBlock)) (by (with_reducible repeat (first | apply Kd.R_alloc | apply Kd.R_drewN | apply Kd.R_drew)); exact Kd.R_mono HO127.out (fun _ hk => ⟨hk.1.2, hk.2⟩)) hg hat)).2.1)))
                      have n5_ := Aside0.mk (ho)
                      clear HO127
                      clear HO130
                      clear HB
                      clear HR137
                      clear HR144
                      clear HO133
                      have HO127 := n0_
                      have HO130 := n1_
                      have HB := n2_
                      have HR137 := n3_
                      have HR144 := n4_
                      have HO140 := n5_
                      clear n0_ n1_ n2_ n3_ n4_ n5_
                      clear ho hb hg hat
                      refine hK.out _ _ trivial (fun hHeld => ?_)
                      clear hK K
                      refine norm_ (a' := ?_) ?_ ?_
                      rotate_left
                      · show Act.put _ (some 30) _ = _
                        simp only [Act.put, List.setIfInBounds_toArray, List.set_cons_zero, List.set_cons_succ, i64_w, i32_w]
                        rfl
                      refine one_ (i := 8) (N := some 34) #[true, true, true, true, true, true, true, true, true, false] rfl rfl (one_of HT_.out (by kernel_rfl)) (by decide) (fun K hK => ?_)
                      refine Kd.R_append_rows_step (Kd.int .u8) (w0 := w) w.heap.size (by rfl) (.tmp 30) (.tmp 33) 22 5 (.int .u8 0) 1 rfl Try.underlying22 info5 rfl (by decide) (by omega) v139 y138 y141 _ _ _ (fun k_ => some k_ ≠ (.slice Ao21 y125.length co21 : Value).ownBlock ∧ some k_ ≠ (.slice Ao22 y128.length co22 : Value).ownBlock) (fun _ => False) rfl rfl ?aO ?aR (fun _ _ h => h) (fun _ h => h.elim) ?aF ?aB ?aS ?aL ?_
                      (case aR => repeat (first | exact (by repeat (first | (with_reducible exact HR144.out) | (with_reducible refine Kd.C_alloc ?_ _) | (with_reducible refine Kd.C_drewN ?_ _) | (with_reducible refine Kd.C_drew ?_) | exact HR144.out)) | (with_reducible refine Kd.C_alloc ?_ _) | (with_reducible refine Kd.C_drewN ?_ _) | (with_reducible refine Kd.C_drew ?_)))
                      (case aB => exact (by repeat (first | (with_reducible first | exact HB.out | apply below_alloc | apply pw_below_drewN | apply below_drew1) | exact HB.out)))
                      (case aF => exact (fun k_ hk => ⟨Kd.fresh' (Kd.R_lt (by (with_reducible repeat (first | apply Kd.R_alloc | apply Kd.R_drewN | apply Kd.R_drew)); exact HO127.out)) k_ hk, Kd.fresh' (Kd.R_lt (by (with_reducible repeat (first | apply Kd.R_alloc | apply Kd.R_drewN | apply Kd.R_drew)); exact HO130.out)) k_ hk⟩))
                      (case aO => exact (by (with_reducible repeat (first | apply Kd.R_alloc | apply Kd.R_drewN | apply Kd.R_drew)); exact HO140.out))
                      (case aS => exact (below_size (by repeat (first | (with_reducible first | exact HB.out | apply below_alloc | apply pw_below_drewN | apply below_drew1) | exact HB.out))))
                      (case aL => have := LMc16.out; omega)
                      intro v146 w29 ho hb hg hat
                      rw [← Ny145.out] at ho
                      have n0_ := Aside0.mk (Kd.R_after (ok := (fun k_ => some k_ ≠ (.slice Ao22 y128.length co22 : Value).ownBlock)) (by (with_reducible repeat (first | apply Kd.R_alloc | apply Kd.R_drewN | apply Kd.R_drew)); exact HO127.out) hg hat)
                      have n1_ := Aside0.mk (Kd.R_after (ok := (fun k_ => some k_ ≠ (.slice Ao21 y125.length co21 : Value).ownBlock)) (by (with_reducible repeat (first | apply Kd.R_alloc | apply Kd.R_drewN | apply Kd.R_drew)); exact HO130.out) hg hat)
                      have n2_ := Aside0.mk (hb)
                      have n3_ := Aside0.mk ((show Kd.C (Kd.int .u8) w29 Ao22 y134.length y134 from by rw [Ny134.out]; exact Kd.C_take (m := ((ji10) : Int).toNat) ((Kd.R_reads' (Kd.R_after (ok := (fun k_ => some k_ ≠ (.slice Ao21 y125.length co21 : Value).ownBlock)) (by (with_reducible repeat (first | apply Kd.R_alloc | apply Kd.R_drewN | apply Kd.R_drew)); exact HO130.out) hg hat)).2.2) KL24.out))
                      have n4_ := Aside0.mk ((show Kd.C (Kd.int .u8) w29 A25 y141.length y141 from by rw [Ny141.out, KA25.out]; exact Kd.C_drop (m := ((ji10) : Int).toNat) (c := co21) ((Kd.R_reads' (Kd.R_after (ok := (fun k_ => some k_ ≠ (.slice Ao22 y128.length co22 : Value).ownBlock)) (by (with_reducible repeat (first | apply Kd.R_alloc | apply Kd.R_drewN | apply Kd.R_drew)); exact HO127.out) hg hat)).2.2) KL25.out ((Kd.R_reads' (Kd.R_after (ok := (fun k_ => some k_ ≠ (.slice Ao22 y128.length co22 : Value).ownBlock)) (by (with_reducible repeat (first | apply Kd.R_alloc | apply Kd.R_drewN | apply Kd.R_drew)); exact HO127.out) hg hat)).2.1)))
                      have n5_ := Aside0.mk (ho)
                      clear HO127
                      clear HO130
                      clear HB
                      clear HR137
                      clear HR144
                      clear HO140
                      have HO127 := n0_
                      have HO130 := n1_
                      have HB := n2_
                      have HR137 := n3_
                      have HR144 := n4_
                      have HO147 := n5_
                      clear n0_ n1_ n2_ n3_ n4_ n5_
                      clear ho hb hg hat
                      refine hK.out _ _ trivial (fun hHeld => ?_)
                      clear hK K
                      refine norm_ (a' := ?_) ?_ ?_
                      rotate_left
                      · show Act.put _ (some 34) _ = _
                        simp only [Act.put, List.setIfInBounds_toArray, List.set_cons_zero, List.set_cons_succ, i64_w, i32_w]
                        rfl
                      refine pure_ (i := 9) (N := some 6) (v := ?_) (a' := ?_) #[true, true, true, true, true, true, true, true, true, true] rfl rfl (any_of HT_.out (by kernel_rfl)) (fun _ _ _ h => h) (Or.inl ⟨by rfl, ?_⟩) ?_ ?_
                      rotate_left
                      · intro w'
                        go_simp
                        with_reducible rfl
                      rotate_left
                      · simp only [Act.put, List.setIfInBounds_toArray, List.set_cons_zero, List.set_cons_succ, i64_w, i32_w]
                        rfl
                      refine done_ (done_of HT_.out (by kernel_rfl)) ?_
                      try go_wp2
                      go_ret
                      exact ⟨_, by first | rfl | (simp [errW_none, errW_some] <;> rfl) | (simp only [← hji9, ← hji10]; first | rfl | (simp [errW_none, errW_some] <;> rfl)) | (simp [*, errW_none, errW_some] <;> rfl), by (with_reducible repeat (first | apply Kd.R_alloc | apply Kd.R_drewN | apply Kd.R_drew)); exact Kd.R_mono HO147.out (fun _ hk => trivial), by repeat (first | (with_reducible first | exact HB.out | apply below_alloc | apply pw_below_drewN | apply below_drew1) | exact HB.out)⟩
                    · rw [if_neg c16] at H
                      exact absurd H (by simp)
                  · rw [if_neg c15] at H
                    exact absurd H (by simp)
                · rw [if_neg c13] at H
                  exact absurd H (by simp)
              · rw [if_neg c12] at H
                exact absurd H (by simp)
            · rw [if_neg c11] at H
              exact absurd H (by simp)
          · rw [if_neg c8] at H
            have c8b0 : ((y128.length : Int) == 512) = false := beq_eq_false_iff_ne.mpr c8
            have c8b1 : ((y128.length : Int) != 512) = true := bne_iff_ne.mpr c8
            obtain rfl := Option.some.inj H
            go_enter Try.func6, Try.ntmps6
            go_wp2_with (first | ((with_reducible refine gate_dst (N := 10) rfl ?_); (try (refine gate_guard (by rfl) ?_; dsimp only)); refine Kd.R_make (Kd.int .u8) _ 5 rfl (N := 10) rfl 22 _ _ rfl 512 rfl rfl Try.underlying22 (.int .u8 0) 1 info5 rfl (by decide) (by omega) 0 (ok := fun _ => True) (okp := fun _ => True) rfl (fun _ hk => hk) trivial (by omega) (by omega) (Below.refl _ _) (Nat.le_refl _) ?_; intro v126 w30 ho31 hb hg_ hnew_; clear hg_ hnew_; (first | rw [← Ny125.out] at ho31 | (simp only [Int.reduceToNat] at ho31; rw [← Ny125.out] at ho31)); have n0_ := Aside0.mk (Kd.R_lower ho31 (below_size (by repeat (first | (with_reducible first | exact HB.out | apply below_alloc | apply pw_below_drewN | apply below_drew1) | exact HB.out)))); have n1_ := Aside0.mk (below_step (by repeat (first | (with_reducible first | exact HB.out | apply below_alloc | apply pw_below_drewN | apply below_drew1) | exact HB.out)) hb); clear HB; have HO127 := n0_; have HB := n1_; clear n0_ n1_; clear hb ho31) | ((with_reducible refine gate_dst (N := 14) rfl ?_); (try (refine gate_guard (by rfl) ?_; dsimp only)); refine Kd.R_make (Kd.int .u8) _ 5 rfl (N := 14) rfl 22 _ _ rfl 512 rfl rfl Try.underlying22 (.int .u8 0) 1 info5 rfl (by decide) (by omega) 0 (ok := fun _ => True) (okp := fun _ => True) rfl (fun _ hk => hk) trivial (by omega) (by omega) (Below.refl _ _) (Nat.le_refl _) ?_; intro v129 w32 ho33 hb hg_ hnew_; clear hg_ hnew_; (first | rw [← Ny128.out] at ho33 | (simp only [Int.reduceToNat] at ho33; rw [← Ny128.out] at ho33)); have n0_ := Aside0.mk (Kd.R_elder' (by (with_reducible repeat (first | apply Kd.R_alloc | apply Kd.R_drewN | apply Kd.R_drew)); exact HO127.out) (Kd.R_base ho33) hb); have n1_ := Aside0.mk (Kd.R_lower (Kd.R_new' ho33 (Kd.R_lt (by (with_reducible repeat (first | apply Kd.R_alloc | apply Kd.R_drewN | apply Kd.R_drew)); exact HO127.out))) (below_size (by repeat (first | (with_reducible first | exact HB.out | apply below_alloc | apply pw_below_drewN | apply below_drew1) | exact HB.out)))); have n2_ := Aside0.mk (below_step (by repeat (first | (with_reducible first | exact HB.out | apply below_alloc | apply pw_below_drewN | apply below_drew1) | exact HB.out)) hb); clear HO127; clear HB; have HO127 := n0_; have HO130 := n1_; have HB := n2_; clear n0_ n1_ n2_; clear hb ho33; obtain ⟨Ao34, co34, eo34⟩ := Kd.R_slice HO127.out; subst eo34; obtain ⟨Ao35, co35, eo35⟩ := Kd.R_slice HO130.out; subst eo35))
            go_ret
            exact ⟨_, by first | rfl | (simp [errW_none, errW_some] <;> rfl) | (simp [*, errW_none, errW_some] <;> rfl), by first | exact Kd.R_nil _ _ _ _ _ | exact Kd.N_nil _ _ _ _ _ | exact Kd.V_nil _ _ _ _ _ | exact Kd.Q_nil _ _ _ _ _ | exact Kd.S_nil _ _ _ _ _, by repeat (first | (with_reducible first | exact HB.out | apply below_alloc | apply pw_below_drewN | apply below_drew1) | exact HB.out)⟩
        · rw [if_neg c7] at H
          have c7b0 : ((y125.length : Int) == 512) = false := beq_eq_false_iff_ne.mpr c7
          have c7b1 : ((y125.length : Int) != 512) = true := bne_iff_ne.mpr c7
          obtain rfl := Option.some.inj H
          go_enter Try.func6, Try.ntmps6
          go_wp2_with (first | ((with_reducible refine gate_dst (N := 10) rfl ?_); (try (refine gate_guard (by rfl) ?_; dsimp only)); refine Kd.R_make (Kd.int .u8) _ 5 rfl (N := 10) rfl 22 _ _ rfl 512 rfl rfl Try.underlying22 (.int .u8 0) 1 info5 rfl (by decide) (by omega) 0 (ok := fun _ => True) (okp := fun _ => True) rfl (fun _ hk => hk) trivial (by omega) (by omega) (Below.refl _ _) (Nat.le_refl _) ?_; intro v126 w36 ho37 hb hg_ hnew_; clear hg_ hnew_; (first | rw [← Ny125.out] at ho37 | (simp only [Int.reduceToNat] at ho37; rw [← Ny125.out] at ho37)); have n0_ := Aside0.mk (Kd.R_lower ho37 (below_size (by repeat (first | (with_reducible first | exact HB.out | apply below_alloc | apply pw_below_drewN | apply below_drew1) | exact HB.out)))); have n1_ := Aside0.mk (below_step (by repeat (first | (with_reducible first | exact HB.out | apply below_alloc | apply pw_below_drewN | apply below_drew1) | exact HB.out)) hb); clear HB; have HO127 := n0_; have HB := n1_; clear n0_ n1_; clear hb ho37) | ((with_reducible refine gate_dst (N := 14) rfl ?_); (try (refine gate_guard (by rfl) ?_; dsimp only)); refine Kd.R_make (Kd.int .u8) _ 5 rfl (N := 14) rfl 22 _ _ rfl 512 rfl rfl Try.underlying22 (.int .u8 0) 1 info5 rfl (by decide) (by omega) 0 (ok := fun _ => True) (okp := fun _ => True) rfl (fun _ hk => hk) trivial (by omega) (by omega) (Below.refl _ _) (Nat.le_refl _) ?_; intro v129 w38 ho39 hb hg_ hnew_; clear hg_ hnew_; (first | rw [← Ny128.out] at ho39 | (simp only [Int.reduceToNat] at ho39; rw [← Ny128.out] at ho39)); have n0_ := Aside0.mk (Kd.R_elder' (by (with_reducible repeat (first | apply Kd.R_alloc | apply Kd.R_drewN | apply Kd.R_drew)); exact HO127.out) (Kd.R_base ho39) hb); have n1_ := Aside0.mk (Kd.R_lower (Kd.R_new' ho39 (Kd.R_lt (by (with_reducible repeat (first | apply Kd.R_alloc | apply Kd.R_drewN | apply Kd.R_drew)); exact HO127.out))) (below_size (by repeat (first | (with_reducible first | exact HB.out | apply below_alloc | apply pw_below_drewN | apply below_drew1) | exact HB.out)))); have n2_ := Aside0.mk (below_step (by repeat (first | (with_reducible first | exact HB.out | apply below_alloc | apply pw_below_drewN | apply below_drew1) | exact HB.out)) hb); clear HO127; clear HB; have HO127 := n0_; have HO130 := n1_; have HB := n2_; clear n0_ n1_ n2_; clear hb ho39; obtain ⟨Ao40, co40, eo40⟩ := Kd.R_slice HO127.out; subst eo40))
          go_ret
          exact ⟨_, by first | rfl | (simp [errW_none, errW_some] <;> rfl) | (simp [*, errW_none, errW_some] <;> rfl), by first | exact Kd.R_nil _ _ _ _ _ | exact Kd.N_nil _ _ _ _ _ | exact Kd.V_nil _ _ _ _ _ | exact Kd.Q_nil _ _ _ _ _ | exact Kd.S_nil _ _ _ _ _, by repeat (first | (with_reducible first | exact HB.out | apply below_alloc | apply pw_below_drewN | apply below_drew1) | exact HB.out)⟩
      · rw [if_neg c6] at H
        have c6b0 : ((l1.length : Int) == 0) = false := beq_eq_false_iff_ne.mpr c6
        have c6b1 : ((l1.length : Int) != 0) = true := bne_iff_ne.mpr c6
        have c6b2 : ¬ (l1 = []) := fun h_ => c6 (by rw [h_]; rfl)
        by_cases c41 : (y125.length : Int) = 512
        · rw [if_pos c41] at H
          have c41b0 : ((y125.length : Int) == 512) = true := beq_iff_eq.mpr c41
          have c41b1 : ((y125.length : Int) != 512) = false := bne_eq_false_iff_eq.mpr c41
          clear c41
          by_cases c42 : (l1.length : Int) = 512
          · rw [if_pos c42] at H
            have c42b0 : ((l1.length : Int) == 512) = true := beq_iff_eq.mpr c42
            have c42b1 : ((l1.length : Int) != 512) = false := bne_eq_false_iff_eq.mpr c42
            clear c42
            obtain ⟨ji43, hji43⟩ : ∃ j_ : Int, (mn a2 512) = j_ := ⟨_, rfl⟩
            replace H : ((some (([] : List Int) : List Int)).bind fun y148 => (if 0 ≤ (mx 0 (ji43)) then (if (mx 0 (ji43)) ≤ (l1.length : Int) then (if y148.length + (l1.take ((mx 0 (ji43)) : Int).toNat).length < 140737488355328 then ((some (y148 ++ (l1.take ((mx 0 (ji43)) : Int).toNat) : List Int)).bind fun y152 => (if (mx 0 (ji43)) ≤ (y125.length : Int) then ((some (y125.drop ((mx 0 (ji43)) : Int).toNat : List Int)).bind fun y155 => (if y152.length + y155.length < 140737488355328 then (some (y152 ++ y155)) else (none))) else (none))) else (none)) else (none)) else (none))) = some r := by first | (rw [hji43] at H; exact H) | (simp only [hji43] at H ⊢; exact H)
            (try (have hji43h : ji43 ≤ 512 := by (rw [← hji43]; unfold mn; (repeat' split) <;> omega)))
            (try (have hji43g : ji43 ≤ 64 := by omega))
            have hji43_ : (if 512 < a2 then 512 else a2) = ji43 := hji43
            obtain ⟨ji44, hji44⟩ : ∃ j_ : Int, (mx 0 (ji43)) = j_ := ⟨_, rfl⟩
            replace H : ((some (([] : List Int) : List Int)).bind fun y148 => (if 0 ≤ (ji44) then (if (ji44) ≤ (l1.length : Int) then (if y148.length + (l1.take ((ji44) : Int).toNat).length < 140737488355328 then ((some (y148 ++ (l1.take ((ji44) : Int).toNat) : List Int)).bind fun y152 => (if (ji44) ≤ (y125.length : Int) then ((some (y125.drop ((ji44) : Int).toNat : List Int)).bind fun y155 => (if y152.length + y155.length < 140737488355328 then (some (y152 ++ y155)) else (none))) else (none))) else (none)) else (none)) else (none))) = some r := by first | (rw [hji44] at H; exact H) | (simp only [hji44] at H ⊢; exact H)
            have hji44_ : (if 0 < (ji43) then (ji43) else 0) = ji44 := hji44
            obtain ⟨y148, hy148⟩ : ∃ y_ : List Int, y_ = (([] : List Int)) := ⟨_, rfl⟩
            replace H : (if 0 ≤ (ji44) then (if (ji44) ≤ (l1.length : Int) then (if y148.length + (l1.take ((ji44) : Int).toNat).length < 140737488355328 then ((some (y148 ++ (l1.take ((ji44) : Int).toNat) : List Int)).bind fun y152 => (if (ji44) ≤ (y125.length : Int) then ((some (y125.drop ((ji44) : Int).toNat : List Int)).bind fun y155 => (if y152.length + y155.length < 140737488355328 then (some (y152 ++ y155)) else (none))) else (none))) else (none)) else (none)) else (none)) = some r := by first | (rw [hy148]; with_reducible exact H) | (have H2_ := (Option.bind_some _ _).symm.trans H; rw [hy148]; with_reducible exact H2_) | (have H2_ := (Option.bind_some _ _).symm.trans H; with_reducible exact H2_) | with_reducible exact H | (rw [hy148]; exact H) | exact H
            have Ny148 := Aside0.mk hy148
            clear hy148
            by_cases c45 : 0 ≤ (ji44)
            · rw [if_pos c45] at H
              have c45b0 := eq_true c45
              have c45b1 : decide (0 ≤ (ji44)) = true := decide_eq_true c45
              clear c45
              by_cases c46 : (ji44) ≤ (l1.length : Int)
              · rw [if_pos c46] at H
                have c46b0 := eq_true c46
                have c46b1 : decide ((ji44) ≤ (l1.length : Int)) = true := decide_eq_true c46
                clear c46
                by_cases c47 : y148.length + (l1.take ((ji44) : Int).toNat).length < 140737488355328
                · rw [if_pos c47] at H
                  have LMc47 := Aside0.mk c47
                  clear c47
                  obtain ⟨y152, hy152⟩ : ∃ y_ : List Int, y_ = (y148 ++ (l1.take ((ji44) : Int).toNat)) := ⟨_, rfl⟩
                  replace H : (if (ji44) ≤ (y125.length : Int) then ((some (y125.drop ((ji44) : Int).toNat : List Int)).bind fun y155 => (if y152.length + y155.length < 140737488355328 then (some (y152 ++ y155)) else (none))) else (none)) = some r := by first | (rw [hy152]; with_reducible exact H) | (have H2_ := (Option.bind_some _ _).symm.trans H; rw [hy152]; with_reducible exact H2_) | (have H2_ := (Option.bind_some _ _).symm.trans H; with_reducible exact H2_) | with_reducible exact H | (rw [hy152]; exact H) | exact H
                  have Ny152 := Aside0.mk hy152
                  clear hy152
                  have c48b0 := eq_true (of_decide_eq_true (by first | (with_reducible assumption) | assumption) : 0 ≤ (ji44))
                  by_cases c49 : (ji44) ≤ (y125.length : Int)
                  · rw [if_pos c49] at H
                    have c49b0 := eq_true c49
                    have c49b1 : decide ((ji44) ≤ (y125.length : Int)) = true := decide_eq_true c49
                    clear c49
                    obtain ⟨y155, hy155⟩ : ∃ y_ : List Int, y_ = (y125.drop ((ji44) : Int).toNat) := ⟨_, rfl⟩
                    replace H : (if y152.length + y155.length < 140737488355328 then (some (y152 ++ y155)) else (none)) = some r := by first | (rw [hy155]; with_reducible exact H) | (have H2_ := (Option.bind_some _ _).symm.trans H; rw [hy155]; with_reducible exact H2_) | (have H2_ := (Option.bind_some _ _).symm.trans H; with_reducible exact H2_) | with_reducible exact H | (rw [hy155]; exact H) | exact H
                    have Ny155 := Aside0.mk hy155
                    clear hy155
                    by_cases c50 : y152.length + y155.length < 140737488355328
                    · rw [if_pos c50] at H
                      have LMc50 := Aside0.mk c50
                      clear c50
                      obtain ⟨y159, hy159⟩ : ∃ y_ : List Int, y_ = (y152 ++ y155) := ⟨_, rfl⟩
                      replace H : (some y159) = some r := by first | (rw [hy159]; with_reducible exact H) | (have H2_ := (Option.bind_some _ _).symm.trans H; rw [hy159]; with_reducible exact H2_) | (have H2_ := (Option.bind_some _ _).symm.trans H; with_reducible exact H2_) | with_reducible exact H | (rw [hy159]; exact H) | exact H
                      have Ny159 := Aside0.mk hy159
                      clear hy159
                      obtain rfl := Option.some.inj H
                      go_enter Try.func6, Try.ntmps6
                      try go_wp2_with (first | ((with_reducible refine gate_dst (N := 10) rfl ?_); (try (refine gate_guard (by rfl) ?_; dsimp only)); refine Kd.R_make (Kd.int .u8) _ 5 rfl (N := 10) rfl 22 _ _ rfl 512 rfl rfl Try.underlying22 (.int .u8 0) 1 info5 rfl (by decide) (by omega) 0 (ok := fun _ => True) (okp := fun _ => True) rfl (fun _ hk => hk) trivial (by omega) (by omega) (Below.refl _ _) (Nat.le_refl _) ?_; intro v126 w51 ho52 hb hg_ hnew_; clear hg_ hnew_; (first | rw [← Ny125.out] at ho52 | (simp only [Int.reduceToNat] at ho52; rw [← Ny125.out] at ho52)); have n0_ := Aside0.mk (Kd.R_lower ho52 (below_size (by repeat (first | (with_reducible first | exact HB.out | apply below_alloc | apply pw_below_drewN | apply below_drew1) | exact HB.out)))); have n1_ := Aside0.mk (below_step (by repeat (first | (with_reducible first | exact HB.out | apply below_alloc | apply pw_below_drewN | apply below_drew1) | exact HB.out)) hb); clear HB; have HO127 := n0_; have HB := n1_; clear n0_ n1_; clear hb ho52; obtain ⟨Ao53, co53, eo53⟩ := Kd.R_slice HO127.out; subst eo53))
                      have n0_ := Aside0.mk (Kd.R_drew HO127.out)
                      have n1_ := Aside0.mk (below_drew1 HB.out)
                      clear HO127
                      clear HB
                      have HO127 := n0_
                      have HB := n1_
                      clear n0_ n1_
                      obtain ⟨i055, hi055, _, hsz55, _⟩ := info_parts info5
                      obtain ⟨hcut55, hA55, hC55⟩ := print_take_of (P := Try.prog) (Value.int .u8) 0 22 5 .i64 Try.underlying22 hi055 hsz55 A1 c1 l1 (ji44) (of_decide_eq_true (by first | (with_reducible assumption) | assumption)) (of_decide_eq_true (by first | (with_reducible assumption) | assumption)) HC1.out
                      have HR151 := Aside0.mk (Kd.C_of_reads (h1 := fun _ => rfl) (hA55 _ (Kd.reads_of_C HR1.out)))
                      have HC151 := Aside0.mk hC55
                      clear hA55 hC55 hi055 hsz55
                      have q56 : ((ji44) : Int) ≤ ((y125.length : Int) : Int) := of_decide_eq_true (by first | (with_reducible assumption) | assumption)
                      obtain ⟨i056, hi056, _, hsz56, _⟩ := info_parts info5
                      have hroom56 : y125.length ≤ co53 := (Kd.R_reads' HO127.out).2.1
                      have hC56 : Kd.C (Kd.int .u8) _ Ao53 y125.length y125 := (Kd.R_reads' HO127.out).2.2
                      have q056 : (0 : Int) ≤ ((ji44) : Int) := of_decide_eq_true (by first | (with_reducible assumption) | assumption)
                      have hcut56 := cut_from (P := Try.prog) 22 5 .i64 Try.underlying22 hi056 1 hsz56 Ao53 y125.length co53 (ji44) q056 q56
                      have hr56 := Kd.C_drop (m := ((ji44) : Int).toNat) (c := co53) hC56 (by omega) hroom56
                      obtain ⟨A56, hA56⟩ : ∃ A1, A1 = (if co53 = ((ji44) : Int).toNat then Ao53 else (Ao53 : Option Addr).map (·.add (((ji44) : Int).toNat * 1))) := ⟨_, rfl⟩
                      obtain ⟨c56, hc56⟩ : ∃ c1, c1 = co53 - ((ji44) : Int).toNat := ⟨_, rfl⟩
                      have hy56 : y155.length = y125.length - ((ji44) : Int).toNat := (by rw [Ny155.out, List.length_drop] <;> omega)
                      rw [show (y125).drop ((ji44) : Int).toNat = y155 from Ny155.out.symm] at hr56
                      replace hr56 : Kd.C (Kd.int .u8) _ A56 y155.length y155 := (by rw [hA56]; exact hr56)
                      rw [← hy56, ← hA56, ← hc56] at hcut56
                      have HR158 := Aside0.mk hr56
                      have HC158 := Aside0.mk (show y155.length ≤ c56 from by rw [hy56, hc56]; exact Nat.sub_le_sub_right hroom56 _)
                      clear hr56 hC56 hroom56 hi056 hsz56 hc56
                      have KY56 := Aside0.mk hy56
                      have KA56 := Aside0.mk hA56
                      clear hy56 hA56
                      have KL56 := Aside0.mk (show ((ji44) : Int).toNat ≤ y125.length from by omega)
                      replace q56 := eq_true q56
                      refine start_ (n := 10) (S := fun w' => True) (ds := []) #[false, false, false, false, false, false, false, false, false, false] (by kernel_rfl) rfl rfl trivial (fun hHeld => ?_); refine with_tabW impl_Tear.tab8 impl_Tear.bits8 (fun HT_ HW_ => ?_)
                      generalize w51.drew = w54 at HO127 HB HR151 HR158 hHeld ⊢
                      refine pure_ (i := 1) (N := some 27) (v := ?_) (a' := ?_) #[false, true, false, false, false, false, false, false, false, false] rfl rfl (any_of HT_.out (by kernel_rfl)) (fun _ _ _ h => h) (Or.inl ⟨by rfl, ?_⟩) ?_ ?_
                      rotate_left
                      · intro w'
                        go_simp
                        with_reducible rfl
                      rotate_left
                      · simp only [Act.put, List.setIfInBounds_toArray, List.set_cons_zero, List.set_cons_succ, i64_w, i32_w]
                        rfl
                      refine pure_ (i := 2) (N := some 28) (v := ?_) (a' := ?_) #[false, true, true, false, false, false, false, false, false, false] rfl rfl (any_of HT_.out (by kernel_rfl)) (fun _ _ _ h => h) (Or.inl ⟨by rfl, ?_⟩) ?_ ?_
                      rotate_left
                      · intro w'
                        go_simp
                        with_reducible rfl
                      rotate_left
                      · simp only [Act.put, List.setIfInBounds_toArray, List.set_cons_zero, List.set_cons_succ, i64_w, i32_w]
                        rfl
                      refine pure_ (i := 3) (N := some 29) (v := ?_) (a' := ?_) #[false, true, true, true, false, false, false, false, false, false] rfl rfl (any_of HT_.out (by kernel_rfl)) (fun _ _ _ h => h) (Or.inl ⟨by rfl, ?_⟩) ?_ ?_
                      rotate_left
                      · intro w'
                        go_simp
                        with_reducible rfl
                      rotate_left
                      · simp only [Act.put, List.setIfInBounds_toArray, List.set_cons_zero, List.set_cons_succ, i64_w, i32_w]
                        rfl
                      refine pure_ (i := 5) (N := some 31) (v := ?_) (a' := ?_) #[false, true, true, true, false, true, false, false, false, false] rfl rfl (any_of HT_.out (by kernel_rfl)) (fun _ _ _ h => h) (Or.inl ⟨by rfl, ?_⟩) ?_ ?_
                      rotate_left
                      · intro w'
                        go_simp
                        with_reducible rfl
                      rotate_left
                      · simp only [Act.put, List.setIfInBounds_toArray, List.set_cons_zero, List.set_cons_succ, i64_w, i32_w]
                        rfl
                      refine pure_ (i := 6) (N := some 32) (v := ?_) (a' := ?_) #[false, true, true, true, false, true, true, false, false, false] rfl rfl (any_of HT_.out (by kernel_rfl)) (fun _ _ _ h => h) (Or.inl ⟨by rfl, ?_⟩) ?_ ?_
                      rotate_left
                      · intro w'
                        go_simp
                        with_reducible rfl
                      rotate_left
                      · simp only [Act.put, List.setIfInBounds_toArray, List.set_cons_zero, List.set_cons_succ, i64_w, i32_w]
                        rfl
                      refine pure_ (i := 7) (N := some 33) (v := ?_) (a' := ?_) #[false, true, true, true, false, true, true, true, false, false] rfl rfl (any_of HT_.out (by kernel_rfl)) (fun _ _ _ h => h) (Or.inl ⟨by rfl, ?_⟩) ?_ ?_
                      rotate_left
                      · intro w'
                        go_simp
                        with_reducible rfl
                      rotate_left
                      · simp only [Act.put, List.setIfInBounds_toArray, List.set_cons_zero, List.set_cons_succ, i64_w, i32_w]
                        rfl
                      refine one_ (i := 0) (N := some 26) #[true, true, true, true, false, true, true, true, false, false] rfl rfl (one_of HT_.out (by kernel_rfl)) (by decide) (fun K hK => ?_)
                      refine Kd.R_lit_step (Kd.int .u8) _ 5 ?hg (N := 26) ?hd (xs := ([] : List Int)) (inner := []) (ok := fun _ => True) (okp := fun _ => True) ?hr ?hp (fun _ hk => hk) trivial (Below.refl _ _) (Nat.le_refl _) (by simp) ?_; (case hd => rfl); (case hg => rfl); (case hr => first | (go_simp; done) | (go_simp; rfl)); (case hp => exact (Reps.none _ _))
                      intro v149 w57 ho58 hb hg_ hnew_
                      clear hg_ hnew_
                      (first | rw [← Ny148.out] at ho58 | (simp only [Int.reduceToNat] at ho58; rw [← Ny148.out] at ho58))
                      have n0_ := Aside0.mk (Kd.R_elder' (by (with_reducible repeat (first | apply Kd.R_alloc | apply Kd.R_drewN | apply Kd.R_drew)); exact HO127.out) (Kd.R_base ho58) hb)
                      have n1_ := Aside0.mk (Kd.R_lower (Kd.R_new' ho58 (Kd.R_lt (by (with_reducible repeat (first | apply Kd.R_alloc | apply Kd.R_drewN | apply Kd.R_drew)); exact HO127.out))) (below_size (by repeat (first | (with_reducible first | exact HB.out | apply below_alloc | apply pw_below_drewN | apply below_drew1) | exact HB.out))))
                      have n2_ := Aside0.mk (Kd.C_below (by repeat (first | (with_reducible exact HR158.out) | (with_reducible refine Kd.C_alloc ?_ _) | (with_reducible refine Kd.C_drewN ?_ _) | (with_reducible refine Kd.C_drew ?_) | exact HR158.out)) hb)
                      have n3_ := Aside0.mk (below_step (by repeat (first | (with_reducible first | exact HB.out | apply below_alloc | apply pw_below_drewN | apply below_drew1) | exact HB.out)) hb)
                      clear HO127
                      clear HR158
                      clear HB
                      have HO127 := n0_
                      have HO150 := n1_
                      have HR158 := n2_
                      have HB := n3_
                      clear n0_ n1_ n2_ n3_
                      clear hb ho58
                      refine hK.out _ _ trivial (fun hHeld => ?_)
                      clear hK K
                      refine norm_ (a' := ?_) ?_ ?_
                      rotate_left
                      · show Act.put _ (some 26) _ = _
                        simp only [Act.put, List.setIfInBounds_toArray, List.set_cons_zero, List.set_cons_succ, i64_w, i32_w]
                        rfl
                      refine one_ (i := 4) (N := some 30) #[true, true, true, true, true, true, true, true, false, false] rfl rfl (one_of HT_.out (by kernel_rfl)) (by decide) (fun K hK => ?_)
                      refine Kd.R_append_rows_step (Kd.int .u8) (w0 := w) w.heap.size (by rfl) (.tmp 26) (.tmp 29) 22 5 (.int .u8 0) 1 rfl Try.underlying22 info5 rfl (by decide) (by omega) v149 y148 (l1.take ((ji44) : Int).toNat) _ _ _ (fun k_ => some k_ ≠ (.slice Ao53 y125.length co53 : Value).ownBlock) (fun _ => False) rfl rfl ?aO ?aR (fun _ _ h => h) (fun _ h => h.elim) ?aF ?aB ?aS ?aL ?_
                      (case aR => first | (refine cut_len_ ?_ (show (l1.take ((ji44) : Int).toNat).length = (ji44).toNat from (by rw [List.length_take]; have h_ : ((ji44) : Int) ≤ (l1.length : Int) := of_decide_eq_true (by first | (with_reducible assumption) | assumption); omega)); repeat (first | exact (Kd.C_below HR151.out HB.out) | (with_reducible refine Kd.C_alloc ?_ _) | (with_reducible refine Kd.C_drewN ?_ _) | (with_reducible refine Kd.C_drew ?_))) | (repeat (first | exact (Kd.C_below HR151.out HB.out) | (with_reducible refine Kd.C_alloc ?_ _) | (with_reducible refine Kd.C_drewN ?_ _) | (with_reducible refine Kd.C_drew ?_))))
                      (case aB => exact (by repeat (first | (with_reducible first | exact HB.out | apply below_alloc | apply pw_below_drewN | apply below_drew1) | exact HB.out)))
                      (case aF => exact (fun k_ hk => Kd.fresh' (Kd.R_lt (by (with_reducible repeat (first | apply Kd.R_alloc | apply Kd.R_drewN | apply Kd.R_drew)); exact HO127.out)) k_ hk))
                      (case aO => exact (by (with_reducible repeat (first | apply Kd.R_alloc | apply Kd.R_drewN | apply Kd.R_drew)); exact Kd.R_mono HO150.out (fun _ hk => hk.2)))
                      (case aS => exact (below_size (by repeat (first | (with_reducible first | exact HB.out | apply below_alloc | apply pw_below_drewN | apply below_drew1) | exact HB.out))))
                      (case aL => have := LMc47.out; have hlx_ := (show (l1.take ((ji44) : Int).toNat).length = (ji44).toNat from (by rw [List.length_take]; have h_ : ((ji44) : Int) ≤ (l1.length : Int) := of_decide_eq_true (by first | (with_reducible assumption) | assumption); omega)); omega)
                      intro v153 w59 ho hb hg hat
                      rw [← Ny152.out] at ho
                      have n0_ := Aside0.mk (Kd.R_after (ok := (fun _ => True)) (by (with_reducible repeat (first | apply Kd.R_alloc | apply Kd.R_drewN | apply Kd.R_drew)); exact HO127.out) hg hat)
                      have n1_ := Aside0.mk (hb)
                      have n2_ := Aside0.mk ((show Kd.C (Kd.int .u8) w59 A56 y155.length y155 from by rw [Ny155.out, KA56.out]; exact Kd.C_drop (m := ((ji44) : Int).toNat) (c := co53) ((Kd.R_reads' (Kd.R_after (ok := (fun _ => True)) (by (with_reducible repeat (first | apply Kd.R_alloc | apply Kd.R_drewN | apply Kd.R_drew)); exact HO127.out) hg hat)).2.2) KL56.out ((Kd.R_reads' (Kd.R_after (ok := (fun _ => True)) (by (with_reducible repeat (first | apply Kd.R_alloc | apply Kd.R_drewN | apply Kd.R_drew)); exact HO127.out) hg hat)).2.1)))
                      have n3_ := Aside0.mk (ho)
                      clear HO127
                      clear HB
                      clear HR158
                      clear HO150
                      have HO127 := n0_
                      have HB := n1_
                      have HR158 := n2_
                      have HO154 := n3_
                      clear n0_ n1_ n2_ n3_
                      clear ho hb hg hat
                      refine hK.out _ _ trivial (fun hHeld => ?_)
                      clear hK K
                      refine norm_ (a' := ?_) ?_ ?_
                      rotate_left
                      · show Act.put _ (some 30) _ = _
                        simp only [Act.put, List.setIfInBounds_toArray, List.set_cons_zero, List.set_cons_succ, i64_w, i32_w]
                        rfl
                      refine one_ (i := 8) (N := some 34) #[true, true, true, true, true, true, true, true, true, false] rfl rfl (one_of HT_.out (by kernel_rfl)) (by decide) (fun K hK => ?_)
                      refine Kd.R_append_rows_step (Kd.int .u8) (w0 := w) w.heap.size (by rfl) (.tmp 30) (.tmp 33) 22 5 (.int .u8 0) 1 rfl Try.underlying22 info5 rfl (by decide) (by omega) v153 y152 y155 _ _ _ (fun k_ => some k_ ≠ (.slice Ao53 y125.length co53 : Value).ownBlock) (fun _ => False) rfl rfl ?aO ?aR (fun _ _ h => h) (fun _ h => h.elim) ?aF ?aB ?aS ?aL ?_
                      (case aR => repeat (first | exact (by repeat (first | (with_reducible exact HR158.out) | (with_reducible refine Kd.C_alloc ?_ _) | (with_reducible refine Kd.C_drewN ?_ _) | (with_reducible refine Kd.C_drew ?_) | exact HR158.out)) | (with_reducible refine Kd.C_alloc ?_ _) | (with_reducible refine Kd.C_drewN ?_ _) | (with_reducible refine Kd.C_drew ?_)))
                      (case aB => exact (by repeat (first | (with_reducible first | exact HB.out | apply below_alloc | apply pw_below_drewN | apply below_drew1) | exact HB.out)))
                      (case aF => exact (fun k_ hk => Kd.fresh' (Kd.R_lt (by (with_reducible repeat (first | apply Kd.R_alloc | apply Kd.R_drewN | apply Kd.R_drew)); exact HO127.out)) k_ hk))
                      (case aO => exact (by (with_reducible repeat (first | apply Kd.R_alloc | apply Kd.R_drewN | apply Kd.R_drew)); exact HO154.out))
                      (case aS => exact (below_size (by repeat (first | (with_reducible first | exact HB.out | apply below_alloc | apply pw_below_drewN | apply below_drew1) | exact HB.out))))
                      (case aL => have := LMc50.out; omega)
                      intro v160 w60 ho hb hg hat
                      rw [← Ny159.out] at ho
                      have n0_ := Aside0.mk (Kd.R_after (ok := (fun _ => True)) (by (with_reducible repeat (first | apply Kd.R_alloc | apply Kd.R_drewN | apply Kd.R_drew)); exact HO127.out) hg hat)
                      have n1_ := Aside0.mk (hb)
                      have n2_ := Aside0.mk ((show Kd.C (Kd.int .u8) w60 A56 y155.length y155 from by rw [Ny155.out, KA56.out]; exact Kd.C_drop (m := ((ji44) : Int).toNat) (c := co53) ((Kd.R_reads' (Kd.R_after (ok := (fun _ => True)) (by (with_reducible repeat (first | apply Kd.R_alloc | apply Kd.R_drewN | apply Kd.R_drew)); exact HO127.out) hg hat)).2.2) KL56.out ((Kd.R_reads' (Kd.R_after (ok := (fun _ => True)) (by (with_reducible repeat (first | apply Kd.R_alloc | apply Kd.R_drewN | apply Kd.R_drew)); exact HO127.out) hg hat)).2.1)))
                      have n3_ := Aside0.mk (ho)
                      clear HO127
                      clear HB
                      clear HR158
                      clear HO154
                      have HO127 := n0_
                      have HB := n1_
                      have HR158 := n2_
                      have HO161 := n3_
                      clear n0_ n1_ n2_ n3_
                      clear ho hb hg hat
                      refine hK.out _ _ trivial (fun hHeld => ?_)
                      clear hK K
                      refine norm_ (a' := ?_) ?_ ?_
                      rotate_left
                      · show Act.put _ (some 34) _ = _
                        simp only [Act.put, List.setIfInBounds_toArray, List.set_cons_zero, List.set_cons_succ, i64_w, i32_w]
                        rfl
                      refine pure_ (i := 9) (N := some 6) (v := ?_) (a' := ?_) #[true, true, true, true, true, true, true, true, true, true] rfl rfl (any_of HT_.out (by kernel_rfl)) (fun _ _ _ h => h) (Or.inl ⟨by rfl, ?_⟩) ?_ ?_
                      rotate_left
                      · intro w'
                        go_simp
                        with_reducible rfl
                      rotate_left
                      · simp only [Act.put, List.setIfInBounds_toArray, List.set_cons_zero, List.set_cons_succ, i64_w, i32_w]
                        rfl
                      refine done_ (done_of HT_.out (by kernel_rfl)) ?_
                      try go_wp2
                      go_ret
                      exact ⟨_, by first | rfl | (simp [errW_none, errW_some] <;> rfl) | (simp only [← hji43, ← hji44]; first | rfl | (simp [errW_none, errW_some] <;> rfl)) | (simp [*, errW_none, errW_some] <;> rfl), by (with_reducible repeat (first | apply Kd.R_alloc | apply Kd.R_drewN | apply Kd.R_drew)); exact Kd.R_mono HO161.out (fun _ hk => trivial), by repeat (first | (with_reducible first | exact HB.out | apply below_alloc | apply pw_below_drewN | apply below_drew1) | exact HB.out)⟩
                    · rw [if_neg c50] at H
                      exact absurd H (by simp)
                  · rw [if_neg c49] at H
                    exact absurd H (by simp)
                · rw [if_neg c47] at H
                  exact absurd H (by simp)
              · rw [if_neg c46] at H
                exact absurd H (by simp)
            · rw [if_neg c45] at H
              exact absurd H (by simp)
          · rw [if_neg c42] at H
            have c42b0 : ((l1.length : Int) == 512) = false := beq_eq_false_iff_ne.mpr c42
            have c42b1 : ((l1.length : Int) != 512) = true := bne_iff_ne.mpr c42
            obtain rfl := Option.some.inj H
            go_enter Try.func6, Try.ntmps6
            go_wp2_with (first | ((with_reducible refine gate_dst (N := 10) rfl ?_); (try (refine gate_guard (by rfl) ?_; dsimp only)); refine Kd.R_make (Kd.int .u8) _ 5 rfl (N := 10) rfl 22 _ _ rfl 512 rfl rfl Try.underlying22 (.int .u8 0) 1 info5 rfl (by decide) (by omega) 0 (ok := fun _ => True) (okp := fun _ => True) rfl (fun _ hk => hk) trivial (by omega) (by omega) (Below.refl _ _) (Nat.le_refl _) ?_; intro v126 w61 ho62 hb hg_ hnew_; clear hg_ hnew_; (first | rw [← Ny125.out] at ho62 | (simp only [Int.reduceToNat] at ho62; rw [← Ny125.out] at ho62)); have n0_ := Aside0.mk (Kd.R_lower ho62 (below_size (by repeat (first | (with_reducible first | exact HB.out | apply below_alloc | apply pw_below_drewN | apply below_drew1) | exact HB.out)))); have n1_ := Aside0.mk (below_step (by repeat (first | (with_reducible first | exact HB.out | apply below_alloc | apply pw_below_drewN | apply below_drew1) | exact HB.out)) hb); clear HB; have HO127 := n0_; have HB := n1_; clear n0_ n1_; clear hb ho62; obtain ⟨Ao63, co63, eo63⟩ := Kd.R_slice HO127.out; subst eo63))
            go_ret
            exact ⟨_, by first | rfl | (simp [errW_none, errW_some] <;> rfl) | (simp [*, errW_none, errW_some] <;> rfl), by first | exact Kd.R_nil _ _ _ _ _ | exact Kd.N_nil _ _ _ _ _ | exact Kd.V_nil _ _ _ _ _ | exact Kd.Q_nil _ _ _ _ _ | exact Kd.S_nil _ _ _ _ _, by repeat (first | (with_reducible first | exact HB.out | apply below_alloc | apply pw_below_drewN | apply below_drew1) | exact HB.out)⟩
        · rw [if_neg c41] at H
          have c41b0 : ((y125.length : Int) == 512) = false := beq_eq_false_iff_ne.mpr c41
          have c41b1 : ((y125.length : Int) != 512) = true := bne_iff_ne.mpr c41
          obtain rfl := Option.some.inj H
          go_enter Try.func6, Try.ntmps6
          go_wp2_with (first | ((with_reducible refine gate_dst (N := 10) rfl ?_); (try (refine gate_guard (by rfl) ?_; dsimp only)); refine Kd.R_make (Kd.int .u8) _ 5 rfl (N := 10) rfl 22 _ _ rfl 512 rfl rfl Try.underlying22 (.int .u8 0) 1 info5 rfl (by decide) (by omega) 0 (ok := fun _ => True) (okp := fun _ => True) rfl (fun _ hk => hk) trivial (by omega) (by omega) (Below.refl _ _) (Nat.le_refl _) ?_; intro v126 w64 ho65 hb hg_ hnew_; clear hg_ hnew_; (first | rw [← Ny125.out] at ho65 | (simp only [Int.reduceToNat] at ho65; rw [← Ny125.out] at ho65)); have n0_ := Aside0.mk (Kd.R_lower ho65 (below_size (by repeat (first | (with_reducible first | exact HB.out | apply below_alloc | apply pw_below_drewN | apply below_drew1) | exact HB.out)))); have n1_ := Aside0.mk (below_step (by repeat (first | (with_reducible first | exact HB.out | apply below_alloc | apply pw_below_drewN | apply below_drew1) | exact HB.out)) hb); clear HB; have HO127 := n0_; have HB := n1_; clear n0_ n1_; clear hb ho65; obtain ⟨Ao66, co66, eo66⟩ := Kd.R_slice HO127.out; subst eo66))
          go_ret
          exact ⟨_, by first | rfl | (simp [errW_none, errW_some] <;> rfl) | (simp [*, errW_none, errW_some] <;> rfl), by first | exact Kd.R_nil _ _ _ _ _ | exact Kd.N_nil _ _ _ _ _ | exact Kd.V_nil _ _ _ _ _ | exact Kd.Q_nil _ _ _ _ _ | exact Kd.S_nil _ _ _ _ _, by repeat (first | (with_reducible first | exact HB.out | apply below_alloc | apply pw_below_drewN | apply below_drew1) | exact HB.out)⟩
    · rw [if_neg c5] at H
      exact absurd H (by simp)
  · rw [if_neg c4] at H
    have c4b0 : ((l0.length : Int) == 0) = false := beq_eq_false_iff_ne.mpr c4
    have c4b1 : ((l0.length : Int) != 0) = true := bne_iff_ne.mpr c4
    have c4b2 : ¬ (l0 = []) := fun h_ => c4 (by rw [h_]; rfl)
    by_cases c67 : (l1.length : Int) = 0
    · rw [if_pos c67] at H
      have c67b0 : ((l1.length : Int) == 0) = true := beq_iff_eq.mpr c67
      have c67b1 : ((l1.length : Int) != 0) = false := bne_eq_false_iff_eq.mpr c67
      clear c67
      by_cases c68 : 512 ≤ 281474976710656
      · rw [if_pos c68] at H
        have c68b0 := eq_true c68
        have c68b1 : decide (512 ≤ 281474976710656) = true := decide_eq_true c68
        clear c68
        obtain ⟨y162, hy162⟩ : ∃ y_ : List Int, y_ = (List.replicate 512 0) := ⟨_, rfl⟩
        replace H : (if (l0.length : Int) = 512 then (if (y162.length : Int) = 512 then ((some (([] : List Int) : List Int)).bind fun y165 => (if 0 ≤ (mx 0 (mn a2 512)) then (if (mx 0 (mn a2 512)) ≤ (y162.length : Int) then ((some (y162.take ((mx 0 (mn a2 512)) : Int).toNat : List Int)).bind fun y168 => (if y165.length + y168.length < 140737488355328 then ((some (y165 ++ y168 : List Int)).bind fun y172 => (if (mx 0 (mn a2 512)) ≤ (l0.length : Int) then (if y172.length + (l0.drop ((mx 0 (mn a2 512)) : Int).toNat).length < 140737488355328 then (some (y172 ++ (l0.drop ((mx 0 (mn a2 512)) : Int).toNat))) else (none)) else (none))) else (none))) else (none)) else (none))) else (some ([] : List Int))) else (some ([] : List Int))) = some r := by first | (rw [hy162]; with_reducible exact H) | (have H2_ := (Option.bind_some _ _).symm.trans H; rw [hy162]; with_reducible exact H2_) | (have H2_ := (Option.bind_some _ _).symm.trans H; with_reducible exact H2_) | with_reducible exact H | (rw [hy162]; exact H) | exact H
        have Ny162 := Aside0.mk hy162
        clear hy162
        by_cases c69 : (l0.length : Int) = 512
        · rw [if_pos c69] at H
          have c69b0 : ((l0.length : Int) == 512) = true := beq_iff_eq.mpr c69
          have c69b1 : ((l0.length : Int) != 512) = false := bne_eq_false_iff_eq.mpr c69
          clear c69
          by_cases c70 : (y162.length : Int) = 512
          · rw [if_pos c70] at H
            have c70b0 : ((y162.length : Int) == 512) = true := beq_iff_eq.mpr c70
            have c70b1 : ((y162.length : Int) != 512) = false := bne_eq_false_iff_eq.mpr c70
            clear c70
            obtain ⟨ji71, hji71⟩ : ∃ j_ : Int, (mn a2 512) = j_ := ⟨_, rfl⟩
            replace H : ((some (([] : List Int) : List Int)).bind fun y165 => (if 0 ≤ (mx 0 (ji71)) then (if (mx 0 (ji71)) ≤ (y162.length : Int) then ((some (y162.take ((mx 0 (ji71)) : Int).toNat : List Int)).bind fun y168 => (if y165.length + y168.length < 140737488355328 then ((some (y165 ++ y168 : List Int)).bind fun y172 => (if (mx 0 (ji71)) ≤ (l0.length : Int) then (if y172.length + (l0.drop ((mx 0 (ji71)) : Int).toNat).length < 140737488355328 then (some (y172 ++ (l0.drop ((mx 0 (ji71)) : Int).toNat))) else (none)) else (none))) else (none))) else (none)) else (none))) = some r := by first | (rw [hji71] at H; exact H) | (simp only [hji71] at H ⊢; exact H)
            (try (have hji71h : ji71 ≤ 512 := by (rw [← hji71]; unfold mn; (repeat' split) <;> omega)))
            (try (have hji71g : ji71 ≤ 64 := by omega))
            have hji71_ : (if 512 < a2 then 512 else a2) = ji71 := hji71
            obtain ⟨ji72, hji72⟩ : ∃ j_ : Int, (mx 0 (ji71)) = j_ := ⟨_, rfl⟩
            replace H : ((some (([] : List Int) : List Int)).bind fun y165 => (if 0 ≤ (ji72) then (if (ji72) ≤ (y162.length : Int) then ((some (y162.take ((ji72) : Int).toNat : List Int)).bind fun y168 => (if y165.length + y168.length < 140737488355328 then ((some (y165 ++ y168 : List Int)).bind fun y172 => (if (ji72) ≤ (l0.length : Int) then (if y172.length + (l0.drop ((ji72) : Int).toNat).length < 140737488355328 then (some (y172 ++ (l0.drop ((ji72) : Int).toNat))) else (none)) else (none))) else (none))) else (none)) else (none))) = some r := by first | (rw [hji72] at H; exact H) | (simp only [hji72] at H ⊢; exact H)
            have hji72_ : (if 0 < (ji71) then (ji71) else 0) = ji72 := hji72
            obtain ⟨y165, hy165⟩ : ∃ y_ : List Int, y_ = (([] : List Int)) := ⟨_, rfl⟩
            replace H : (if 0 ≤ (ji72) then (if (ji72) ≤ (y162.length : Int) then ((some (y162.take ((ji72) : Int).toNat : List Int)).bind fun y168 => (if y165.length + y168.length < 140737488355328 then ((some (y165 ++ y168 : List Int)).bind fun y172 => (if (ji72) ≤ (l0.length : Int) then (if y172.length + (l0.drop ((ji72) : Int).toNat).length < 140737488355328 then (some (y172 ++ (l0.drop ((ji72) : Int).toNat))) else (none)) else (none))) else (none))) else (none)) else (none)) = some r := by first | (rw [hy165]; with_reducible exact H) | (have H2_ := (Option.bind_some _ _).symm.trans H; rw [hy165]; with_reducible exact H2_) | (have H2_ := (Option.bind_some _ _).symm.trans H; with_reducible exact H2_) | with_reducible exact H | (rw [hy165]; exact H) | exact H
            have Ny165 := Aside0.mk hy165
            clear hy165
            by_cases c73 : 0 ≤ (ji72)
            · rw [if_pos c73] at H
              have c73b0 := eq_true c73
              have c73b1 : decide (0 ≤ (ji72)) = true := decide_eq_true c73
              clear c73
              by_cases c74 : (ji72) ≤ (y162.length : Int)
              · rw [if_pos c74] at H
                have c74b0 := eq_true c74
                have c74b1 : decide ((ji72) ≤ (y162.length : Int)) = true := decide_eq_true c74
                clear c74
                obtain ⟨y168, hy168⟩ : ∃ y_ : List Int, y_ = (y162.take ((ji72) : Int).toNat) := ⟨_, rfl⟩
                replace H : (if y165.length + y168.length < 140737488355328 then ((some (y165 ++ y168 : List Int)).bind fun y172 => (if (ji72) ≤ (l0.length : Int) then (if y172.length + (l0.drop ((ji72) : Int).toNat).length < 140737488355328 then (some (y172 ++ (l0.drop ((ji72) : Int).toNat))) else (none)) else (none))) else (none)) = some r := by first | (rw [hy168]; with_reducible exact H) | (have H2_ := (Option.bind_some _ _).symm.trans H; rw [hy168]; with_reducible exact H2_) | (have H2_ := (Option.bind_some _ _).symm.trans H; with_reducible exact H2_) | with_reducible exact H | (rw [hy168]; exact H) | exact H
                have Ny168 := Aside0.mk hy168
                clear hy168
                by_cases c75 : y165.length + y168.length < 140737488355328
                · rw [if_pos c75] at H
                  have LMc75 := Aside0.mk c75
                  clear c75
                  obtain ⟨y172, hy172⟩ : ∃ y_ : List Int, y_ = (y165 ++ y168) := ⟨_, rfl⟩
                  replace H : (if (ji72) ≤ (l0.length : Int) then (if y172.length + (l0.drop ((ji72) : Int).toNat).length < 140737488355328 then (some (y172 ++ (l0.drop ((ji72) : Int).toNat))) else (none)) else (none)) = some r := by first | (rw [hy172]; with_reducible exact H) | (have H2_ := (Option.bind_some _ _).symm.trans H; rw [hy172]; with_reducible exact H2_) | (have H2_ := (Option.bind_some _ _).symm.trans H; with_reducible exact H2_) | with_reducible exact H | (rw [hy172]; exact H) | exact H
                  have Ny172 := Aside0.mk hy172
                  clear hy172
                  have c76b0 := eq_true (of_decide_eq_true (by first | (with_reducible assumption) | assumption) : 0 ≤ (ji72))
                  by_cases c77 : (ji72) ≤ (l0.length : Int)
                  · rw [if_pos c77] at H
                    have c77b0 := eq_true c77
                    have c77b1 : decide ((ji72) ≤ (l0.length : Int)) = true := decide_eq_true c77
                    clear c77
                    by_cases c78 : y172.length + (l0.drop ((ji72) : Int).toNat).length < 140737488355328
                    · rw [if_pos c78] at H
                      have LMc78 := Aside0.mk c78
                      clear c78
                      obtain ⟨y176, hy176⟩ : ∃ y_ : List Int, y_ = (y172 ++ (l0.drop ((ji72) : Int).toNat)) := ⟨_, rfl⟩
                      replace H : (some y176) = some r := by first | (rw [hy176]; with_reducible exact H) | (have H2_ := (Option.bind_some _ _).symm.trans H; rw [hy176]; with_reducible exact H2_) | (have H2_ := (Option.bind_some _ _).symm.trans H; with_reducible exact H2_) | with_reducible exact H | (rw [hy176]; exact H) | exact H
                      have Ny176 := Aside0.mk hy176
                      clear hy176
                      obtain rfl := Option.some.inj H
                      go_enter Try.func6, Try.ntmps6
                      try go_wp2_with (first | ((with_reducible refine gate_dst (N := 14) rfl ?_); (try (refine gate_guard (by rfl) ?_; dsimp only)); refine Kd.R_make (Kd.int .u8) _ 5 rfl (N := 14) rfl 22 _ _ rfl 512 rfl rfl Try.underlying22 (.int .u8 0) 1 info5 rfl (by decide) (by omega) 0 (ok := fun _ => True) (okp := fun _ => True) rfl (fun _ hk => hk) trivial (by omega) (by omega) (Below.refl _ _) (Nat.le_refl _) ?_; intro v163 w79 ho80 hb hg_ hnew_; clear hg_ hnew_; (first | rw [← Ny162.out] at ho80 | (simp only [Int.reduceToNat] at ho80; rw [← Ny162.out] at ho80)); have n0_ := Aside0.mk (Kd.R_lower ho80 (below_size (by repeat (first | (with_reducible first | exact HB.out | apply below_alloc | apply pw_below_drewN | apply below_drew1) | exact HB.out)))); have n1_ := Aside0.mk (below_step (by repeat (first | (with_reducible first | exact HB.out | apply below_alloc | apply pw_below_drewN | apply below_drew1) | exact HB.out)) hb); clear HB; have HO164 := n0_; have HB := n1_; clear n0_ n1_; clear hb ho80; obtain ⟨Ao81, co81, eo81⟩ := Kd.R_slice HO164.out; subst eo81))
                      have n0_ := Aside0.mk (Kd.R_drew HO164.out)
                      have n1_ := Aside0.mk (below_drew1 HB.out)
                      clear HO164
                      clear HB
                      have HO164 := n0_
                      have HB := n1_
                      clear n0_ n1_
                      have q83 : ((ji72) : Int) ≤ ((y162.length : Int) : Int) := of_decide_eq_true (by first | (with_reducible assumption) | assumption)
                      obtain ⟨i083, hi083, _, hsz83, _⟩ := info_parts info5
                      have hroom83 : y162.length ≤ co81 := (Kd.R_reads' HO164.out).2.1
                      have hC83 : Kd.C (Kd.int .u8) _ Ao81 y162.length y162 := (Kd.R_reads' HO164.out).2.2
                      have hcut83 := cut_to (P := Try.prog) 22 5 .i64 Try.underlying22 hi083 Ao81 y162.length co81 (ji72) (of_decide_eq_true (by first | (with_reducible assumption) | assumption)) q83 hroom83
                      have hr83 := Kd.C_take (m := ((ji72) : Int).toNat) hC83 (by omega)
                      have hy83 : y168.length = ((ji72) : Int).toNat := (by rw [Ny168.out, List.length_take]; omega)
                      rw [← Ny168.out] at hr83
                      rw [← hy83] at hcut83
                      have HR171 := Aside0.mk hr83
                      have HC171 := Aside0.mk (show y168.length ≤ co81 from by omega)
                      clear hr83 hC83 hroom83 hi083 hsz83
                      have KY83 := Aside0.mk hy83
                      clear hy83
                      have KL83 := Aside0.mk (show ((ji72) : Int).toNat ≤ y162.length from by omega)
                      replace q83 := eq_true q83
                      obtain ⟨i084, hi084, _, hsz84, _⟩ := info_parts info5
                      obtain ⟨A84, hcut84, hA84, hC84⟩ := print_drop_of (P := Try.prog) (Value.int .u8) 0 22 5 .i64 Try.underlying22 hi084 hsz84 A0 c0 l0 (ji72) (of_decide_eq_true (by first | (with_reducible assumption) | assumption)) (of_decide_eq_true (by first | (with_reducible assumption) | assumption)) HC0.out
                      have HR175 := Aside0.mk (Kd.C_of_reads (h1 := fun _ => rfl) (hA84 _ (Kd.reads_of_C HR0.out)))
                      have HC175 := Aside0.mk hC84
                      clear hA84 hC84 hi084 hsz84
                      refine start_ (n := 10) (S := fun w' => True) (ds := []) #[false, false, false, false, false, false, false, false, false, false] (by kernel_rfl) rfl rfl trivial (fun hHeld => ?_); refine with_tabW impl_Tear.tab8 impl_Tear.bits8 (fun HT_ HW_ => ?_)
                      generalize w79.drew = w82 at HO164 HB HR171 HR175 hHeld ⊢
                      refine pure_ (i := 1) (N := some 27) (v := ?_) (a' := ?_) #[false, true, false, false, false, false, false, false, false, false] rfl rfl (any_of HT_.out (by kernel_rfl)) (fun _ _ _ h => h) (Or.inl ⟨by rfl, ?_⟩) ?_ ?_
                      rotate_left
                      · intro w'
                        go_simp
                        with_reducible rfl
                      rotate_left
                      · simp only [Act.put, List.setIfInBounds_toArray, List.set_cons_zero, List.set_cons_succ, i64_w, i32_w]
                        rfl
                      refine pure_ (i := 2) (N := some 28) (v := ?_) (a' := ?_) #[false, true, true, false, false, false, false, false, false, false] rfl rfl (any_of HT_.out (by kernel_rfl)) (fun _ _ _ h => h) (Or.inl ⟨by rfl, ?_⟩) ?_ ?_
                      rotate_left
                      · intro w'
                        go_simp
                        with_reducible rfl
                      rotate_left
                      · simp only [Act.put, List.setIfInBounds_toArray, List.set_cons_zero, List.set_cons_succ, i64_w, i32_w]
                        rfl
                      refine pure_ (i := 3) (N := some 29) (v := ?_) (a' := ?_) #[false, true, true, true, false, false, false, false, false, false] rfl rfl (any_of HT_.out (by kernel_rfl)) (fun _ _ _ h => h) (Or.inl ⟨by rfl, ?_⟩) ?_ ?_
                      rotate_left
                      · intro w'
                        go_simp
                        with_reducible rfl
                      rotate_left
                      · simp only [Act.put, List.setIfInBounds_toArray, List.set_cons_zero, List.set_cons_succ, i64_w, i32_w]
                        rfl
                      refine pure_ (i := 5) (N := some 31) (v := ?_) (a' := ?_) #[false, true, true, true, false, true, false, false, false, false] rfl rfl (any_of HT_.out (by kernel_rfl)) (fun _ _ _ h => h) (Or.inl ⟨by rfl, ?_⟩) ?_ ?_
                      rotate_left
                      · intro w'
                        go_simp
                        with_reducible rfl
                      rotate_left
                      · simp only [Act.put, List.setIfInBounds_toArray, List.set_cons_zero, List.set_cons_succ, i64_w, i32_w]
                        rfl
                      refine pure_ (i := 6) (N := some 32) (v := ?_) (a' := ?_) #[false, true, true, true, false, true, true, false, false, false] rfl rfl (any_of HT_.out (by kernel_rfl)) (fun _ _ _ h => h) (Or.inl ⟨by rfl, ?_⟩) ?_ ?_
                      rotate_left
                      · intro w'
                        go_simp
                        with_reducible rfl
                      rotate_left
                      · simp only [Act.put, List.setIfInBounds_toArray, List.set_cons_zero, List.set_cons_succ, i64_w, i32_w]
                        rfl
                      refine pure_ (i := 7) (N := some 33) (v := ?_) (a' := ?_) #[false, true, true, true, false, true, true, true, false, false] rfl rfl (any_of HT_.out (by kernel_rfl)) (fun _ _ _ h => h) (Or.inl ⟨by rfl, ?_⟩) ?_ ?_
                      rotate_left
                      · intro w'
                        go_simp
                        with_reducible rfl
                      rotate_left
                      · simp only [Act.put, List.setIfInBounds_toArray, List.set_cons_zero, List.set_cons_succ, i64_w, i32_w]
                        rfl
                      refine one_ (i := 0) (N := some 26) #[true, true, true, true, false, true, true, true, false, false] rfl rfl (one_of HT_.out (by kernel_rfl)) (by decide) (fun K hK => ?_)
                      refine Kd.R_lit_step (Kd.int .u8) _ 5 ?hg (N := 26) ?hd (xs := ([] : List Int)) (inner := []) (ok := fun _ => True) (okp := fun _ => True) ?hr ?hp (fun _ hk => hk) trivial (Below.refl _ _) (Nat.le_refl _) (by simp) ?_; (case hd => rfl); (case hg => rfl); (case hr => first | (go_simp; done) | (go_simp; rfl)); (case hp => exact (Reps.none _ _))
                      intro v166 w85 ho86 hb hg_ hnew_
                      clear hg_ hnew_
                      (first | rw [← Ny165.out] at ho86 | (simp only [Int.reduceToNat] at ho86; rw [← Ny165.out] at ho86))
                      have n0_ := Aside0.mk (Kd.R_elder' (by (with_reducible repeat (first | apply Kd.R_alloc | apply Kd.R_drewN | apply Kd.R_drew)); exact HO164.out) (Kd.R_base ho86) hb)
                      have n1_ := Aside0.mk (Kd.R_lower (Kd.R_new' ho86 (Kd.R_lt (by (with_reducible repeat (first | apply Kd.R_alloc | apply Kd.R_drewN | apply Kd.R_drew)); exact HO164.out))) (below_size (by repeat (first | (with_reducible first | exact HB.out | apply below_alloc | apply pw_below_drewN | apply below_drew1) | exact HB.out))))
                      have n2_ := Aside0.mk (Kd.C_below (by repeat (first | (with_reducible exact HR171.out) | (with_reducible refine Kd.C_alloc ?_ _) | (with_reducible refine Kd.C_drewN ?_ _) | (with_reducible refine Kd.C_drew ?_) | exact HR171.out)) hb)
                      have n3_ := Aside0.mk (below_step (by repeat (first | (with_reducible first | exact HB.out | apply below_alloc | apply pw_below_drewN | apply below_drew1) | exact HB.out)) hb)
                      clear HO164
                      clear HR171
                      clear HB
                      have HO164 := n0_
                      have HO167 := n1_
                      have HR171 := n2_
                      have HB := n3_
                      clear n0_ n1_ n2_ n3_
                      clear hb ho86
                      refine hK.out _ _ trivial (fun hHeld => ?_)
                      clear hK K
                      refine norm_ (a' := ?_) ?_ ?_
                      rotate_left
                      · show Act.put _ (some 26) _ = _
                        simp only [Act.put, List.setIfInBounds_toArray, List.set_cons_zero, List.set_cons_succ, i64_w, i32_w]
                        rfl
                      refine one_ (i := 4) (N := some 30) #[true, true, true, true, true, true, true, true, false, false] rfl rfl (one_of HT_.out (by kernel_rfl)) (by decide) (fun K hK => ?_)
                      refine Kd.R_append_rows_step (Kd.int .u8) (w0 := w) w.heap.size (by rfl) (.tmp 26) (.tmp 29) 22 5 (.int .u8 0) 1 rfl Try.underlying22 info5 rfl (by decide) (by omega) v166 y165 y168 _ _ _ (fun k_ => some k_ ≠ (.slice Ao81 y162.length co81 : Value).ownBlock) (fun _ => False) rfl rfl ?aO ?aR (fun _ _ h => h) (fun _ h => h.elim) ?aF ?aB ?aS ?aL ?_
                      (case aR => repeat (first | exact (by repeat (first | (with_reducible exact HR171.out) | (with_reducible refine Kd.C_alloc ?_ _) | (with_reducible refine Kd.C_drewN ?_ _) | (with_reducible refine Kd.C_drew ?_) | exact HR171.out)) | (with_reducible refine Kd.C_alloc ?_ _) | (with_reducible refine Kd.C_drewN ?_ _) | (with_reducible refine Kd.C_drew ?_)))
                      (case aB => exact (by repeat (first | (with_reducible first | exact HB.out | apply below_alloc | apply pw_below_drewN | apply below_drew1) | exact HB.out)))
                      (case aF => exact (fun k_ hk => Kd.fresh' (Kd.R_lt (by (with_reducible repeat (first | apply Kd.R_alloc | apply Kd.R_drewN | apply Kd.R_drew)); exact HO164.out)) k_ hk))
                      (case aO => exact (by (with_reducible repeat (first | apply Kd.R_alloc | apply Kd.R_drewN | apply Kd.R_drew)); exact Kd.R_mono HO167.out (fun _ hk => hk.2)))
                      (case aS => exact (below_size (by repeat (first | (with_reducible first | exact HB.out | apply below_alloc | apply pw_below_drewN | apply below_drew1) | exact HB.out))))
                      (case aL => have := LMc75.out; omega)
                      intro v173 w87 ho hb hg hat
                      rw [← Ny172.out] at ho
                      have n0_ := Aside0.mk (Kd.R_after (ok := (fun _ => True)) (by (with_reducible repeat (first | apply Kd.R_alloc | apply Kd.R_drewN | apply Kd.R_drew)); exact HO164.out) hg hat)
                      have n1_ := Aside0.mk (hb)
                      have n2_ := Aside0.mk ((show Kd.C (Kd.int .u8) w87 Ao81 y168.length y168 from by rw [Ny168.out]; exact Kd.C_take (m := ((ji72) : Int).toNat) ((Kd.R_reads' (Kd.R_after (ok := (fun _ => True)) (by (with_reducible repeat (first | apply Kd.R_alloc | apply Kd.R_drewN | apply Kd.R_drew)); exact HO164.out) hg hat)).2.2) KL83.out))
                      have n3_ := Aside0.mk (ho)
                      clear HO164
                      clear HB
                      clear HR171
                      clear HO167
                      have HO164 := n0_
                      have HB := n1_
                      have HR171 := n2_
                      have HO174 := n3_
                      clear n0_ n1_ n2_ n3_
                      clear ho hb hg hat
                      refine hK.out _ _ trivial (fun hHeld => ?_)
                      clear hK K
                      refine norm_ (a' := ?_) ?_ ?_
                      rotate_left
                      · show Act.put _ (some 30) _ = _
                        simp only [Act.put, List.setIfInBounds_toArray, List.set_cons_zero, List.set_cons_succ, i64_w, i32_w]
                        rfl
                      refine one_ (i := 8) (N := some 34) #[true, true, true, true, true, true, true, true, true, false] rfl rfl (one_of HT_.out (by kernel_rfl)) (by decide) (fun K hK => ?_)
                      refine Kd.R_append_rows_step (Kd.int .u8) (w0 := w) w.heap.size (by rfl) (.tmp 30) (.tmp 33) 22 5 (.int .u8 0) 1 rfl Try.underlying22 info5 rfl (by decide) (by omega) v173 y172 (l0.drop ((ji72) : Int).toNat) _ _ _ (fun k_ => some k_ ≠ (.slice Ao81 y162.length co81 : Value).ownBlock) (fun _ => False) rfl rfl ?aO ?aR (fun _ _ h => h) (fun _ h => h.elim) ?aF ?aB ?aS ?aL ?_
                      (case aR => first | (rw [← show (l0.drop ((ji72) : Int).toNat).length = (l0.length - (ji72).toNat) from List.length_drop]; repeat (first | exact (Kd.C_below HR175.out HB.out) | (with_reducible refine Kd.C_alloc ?_ _) | (with_reducible refine Kd.C_drewN ?_ _) | (with_reducible refine Kd.C_drew ?_))) | (repeat (first | exact (Kd.C_below HR175.out HB.out) | (with_reducible refine Kd.C_alloc ?_ _) | (with_reducible refine Kd.C_drewN ?_ _) | (with_reducible refine Kd.C_drew ?_))))
                      (case aB => exact (by repeat (first | (with_reducible first | exact HB.out | apply below_alloc | apply pw_below_drewN | apply below_drew1) | exact HB.out)))
                      (case aF => exact (fun k_ hk => Kd.fresh' (Kd.R_lt (by (with_reducible repeat (first | apply Kd.R_alloc | apply Kd.R_drewN | apply Kd.R_drew)); exact HO164.out)) k_ hk))
                      (case aO => exact (by (with_reducible repeat (first | apply Kd.R_alloc | apply Kd.R_drewN | apply Kd.R_drew)); exact HO174.out))
                      (case aS => exact (below_size (by repeat (first | (with_reducible first | exact HB.out | apply below_alloc | apply pw_below_drewN | apply below_drew1) | exact HB.out))))
                      (case aL => have := LMc78.out; have hlx_ := (show (l0.drop ((ji72) : Int).toNat).length = (l0.length - (ji72).toNat) from List.length_drop); omega)
                      intro v177 w88 ho hb hg hat
                      rw [← Ny176.out] at ho
                      have n0_ := Aside0.mk (Kd.R_after (ok := (fun _ => True)) (by (with_reducible repeat (first | apply Kd.R_alloc | apply Kd.R_drewN | apply Kd.R_drew)); exact HO164.out) hg hat)
                      have n1_ := Aside0.mk (hb)
                      have n2_ := Aside0.mk ((show Kd.C (Kd.int .u8) w88 Ao81 y168.length y168 from by rw [Ny168.out]; exact Kd.C_take (m := ((ji72) : Int).toNat) ((Kd.R_reads' (Kd.R_after (ok := (fun _ => True)) (by (with_reducible repeat (first | apply Kd.R_alloc | apply Kd.R_drewN | apply Kd.R_drew)); exact HO164.out) hg hat)).2.2) KL83.out))
                      have n3_ := Aside0.mk (ho)
                      clear HO164
                      clear HB
                      clear HR171
                      clear HO174
                      have HO164 := n0_
                      have HB := n1_
                      have HR171 := n2_
                      have HO178 := n3_
                      clear n0_ n1_ n2_ n3_
                      clear ho hb hg hat
                      refine hK.out _ _ trivial (fun hHeld => ?_)
                      clear hK K
                      refine norm_ (a' := ?_) ?_ ?_
                      rotate_left
                      · show Act.put _ (some 34) _ = _
                        simp only [Act.put, List.setIfInBounds_toArray, List.set_cons_zero, List.set_cons_succ, i64_w, i32_w]
                        rfl
                      refine pure_ (i := 9) (N := some 6) (v := ?_) (a' := ?_) #[true, true, true, true, true, true, true, true, true, true] rfl rfl (any_of HT_.out (by kernel_rfl)) (fun _ _ _ h => h) (Or.inl ⟨by rfl, ?_⟩) ?_ ?_
                      rotate_left
                      · intro w'
                        go_simp
                        with_reducible rfl
                      rotate_left
                      · simp only [Act.put, List.setIfInBounds_toArray, List.set_cons_zero, List.set_cons_succ, i64_w, i32_w]
                        rfl
                      refine done_ (done_of HT_.out (by kernel_rfl)) ?_
                      try go_wp2
                      go_ret
                      exact ⟨_, by first | rfl | (simp [errW_none, errW_some] <;> rfl) | (simp only [← hji71, ← hji72]; first | rfl | (simp [errW_none, errW_some] <;> rfl)) | (simp [*, errW_none, errW_some] <;> rfl), by (with_reducible repeat (first | apply Kd.R_alloc | apply Kd.R_drewN | apply Kd.R_drew)); exact Kd.R_mono HO178.out (fun _ hk => trivial), by repeat (first | (with_reducible first | exact HB.out | apply below_alloc | apply pw_below_drewN | apply below_drew1) | exact HB.out)⟩
                    · rw [if_neg c78] at H
                      exact absurd H (by simp)
                  · rw [if_neg c77] at H
                    exact absurd H (by simp)
                · rw [if_neg c75] at H
                  exact absurd H (by simp)
              · rw [if_neg c74] at H
                exact absurd H (by simp)
            · rw [if_neg c73] at H
              exact absurd H (by simp)
          · rw [if_neg c70] at H
            have c70b0 : ((y162.length : Int) == 512) = false := beq_eq_false_iff_ne.mpr c70
            have c70b1 : ((y162.length : Int) != 512) = true := bne_iff_ne.mpr c70
            obtain rfl := Option.some.inj H
            go_enter Try.func6, Try.ntmps6
            go_wp2_with (first | ((with_reducible refine gate_dst (N := 14) rfl ?_); (try (refine gate_guard (by rfl) ?_; dsimp only)); refine Kd.R_make (Kd.int .u8) _ 5 rfl (N := 14) rfl 22 _ _ rfl 512 rfl rfl Try.underlying22 (.int .u8 0) 1 info5 rfl (by decide) (by omega) 0 (ok := fun _ => True) (okp := fun _ => True) rfl (fun _ hk => hk) trivial (by omega) (by omega) (Below.refl _ _) (Nat.le_refl _) ?_; intro v163 w89 ho90 hb hg_ hnew_; clear hg_ hnew_; (first | rw [← Ny162.out] at ho90 | (simp only [Int.reduceToNat] at ho90; rw [← Ny162.out] at ho90)); have n0_ := Aside0.mk (Kd.R_lower ho90 (below_size (by repeat (first | (with_reducible first | exact HB.out | apply below_alloc | apply pw_below_drewN | apply below_drew1) | exact HB.out)))); have n1_ := Aside0.mk (below_step (by repeat (first | (with_reducible first | exact HB.out | apply below_alloc | apply pw_below_drewN | apply below_drew1) | exact HB.out)) hb); clear HB; have HO164 := n0_; have HB := n1_; clear n0_ n1_; clear hb ho90; obtain ⟨Ao91, co91, eo91⟩ := Kd.R_slice HO164.out; subst eo91))
            go_ret
            exact ⟨_, by first | rfl | (simp [errW_none, errW_some] <;> rfl) | (simp [*, errW_none, errW_some] <;> rfl), by first | exact Kd.R_nil _ _ _ _ _ | exact Kd.N_nil _ _ _ _ _ | exact Kd.V_nil _ _ _ _ _ | exact Kd.Q_nil _ _ _ _ _ | exact Kd.S_nil _ _ _ _ _, by repeat (first | (with_reducible first | exact HB.out | apply below_alloc | apply pw_below_drewN | apply below_drew1) | exact HB.out)⟩
        · rw [if_neg c69] at H
          have c69b0 : ((l0.length : Int) == 512) = false := beq_eq_false_iff_ne.mpr c69
          have c69b1 : ((l0.length : Int) != 512) = true := bne_iff_ne.mpr c69
          obtain rfl := Option.some.inj H
          go_enter Try.func6, Try.ntmps6
          go_wp2_with (first | ((with_reducible refine gate_dst (N := 14) rfl ?_); (try (refine gate_guard (by rfl) ?_; dsimp only)); refine Kd.R_make (Kd.int .u8) _ 5 rfl (N := 14) rfl 22 _ _ rfl 512 rfl rfl Try.underlying22 (.int .u8 0) 1 info5 rfl (by decide) (by omega) 0 (ok := fun _ => True) (okp := fun _ => True) rfl (fun _ hk => hk) trivial (by omega) (by omega) (Below.refl _ _) (Nat.le_refl _) ?_; intro v163 w92 ho93 hb hg_ hnew_; clear hg_ hnew_; (first | rw [← Ny162.out] at ho93 | (simp only [Int.reduceToNat] at ho93; rw [← Ny162.out] at ho93)); have n0_ := Aside0.mk (Kd.R_lower ho93 (below_size (by repeat (first | (with_reducible first | exact HB.out | apply below_alloc | apply pw_below_drewN | apply below_drew1) | exact HB.out)))); have n1_ := Aside0.mk (below_step (by repeat (first | (with_reducible first | exact HB.out | apply below_alloc | apply pw_below_drewN | apply below_drew1) | exact HB.out)) hb); clear HB; have HO164 := n0_; have HB := n1_; clear n0_ n1_; clear hb ho93))
          go_ret
          exact ⟨_, by first | rfl | (simp [errW_none, errW_some] <;> rfl) | (simp [*, errW_none, errW_some] <;> rfl), by first | exact Kd.R_nil _ _ _ _ _ | exact Kd.N_nil _ _ _ _ _ | exact Kd.V_nil _ _ _ _ _ | exact Kd.Q_nil _ _ _ _ _ | exact Kd.S_nil _ _ _ _ _, by repeat (first | (with_reducible first | exact HB.out | apply below_alloc | apply pw_below_drewN | apply below_drew1) | exact HB.out)⟩
      · rw [if_neg c68] at H
        exact absurd H (by simp)
    · rw [if_neg c67] at H
      have c67b0 : ((l1.length : Int) == 0) = false := beq_eq_false_iff_ne.mpr c67
      have c67b1 : ((l1.length : Int) != 0) = true := bne_iff_ne.mpr c67
      have c67b2 : ¬ (l1 = []) := fun h_ => c67 (by rw [h_]; rfl)
      by_cases c94 : (l0.length : Int) = 512
      · rw [if_pos c94] at H
        have c94b0 : ((l0.length : Int) == 512) = true := beq_iff_eq.mpr c94
        have c94b1 : ((l0.length : Int) != 512) = false := bne_eq_false_iff_eq.mpr c94
        clear c94
        by_cases c95 : (l1.length : Int) = 512
        · rw [if_pos c95] at H
          have c95b0 : ((l1.length : Int) == 512) = true := beq_iff_eq.mpr c95
          have c95b1 : ((l1.length : Int) != 512) = false := bne_eq_false_iff_eq.mpr c95
          clear c95
          obtain ⟨ji96, hji96⟩ : ∃ j_ : Int, (mn a2 512) = j_ := ⟨_, rfl⟩
          replace H : ((some (([] : List Int) : List Int)).bind fun y179 => (if 0 ≤ (mx 0 (ji96)) then (if (mx 0 (ji96)) ≤ (l1.length : Int) then (if y179.length + (l1.take ((mx 0 (ji96)) : Int).toNat).length < 140737488355328 then ((some (y179 ++ (l1.take ((mx 0 (ji96)) : Int).toNat) : List Int)).bind fun y183 => (if (mx 0 (ji96)) ≤ (l0.length : Int) then (if y183.length + (l0.drop ((mx 0 (ji96)) : Int).toNat).length < 140737488355328 then (some (y183 ++ (l0.drop ((mx 0 (ji96)) : Int).toNat))) else (none)) else (none))) else (none)) else (none)) else (none))) = some r := by first | (rw [hji96] at H; exact H) | (simp only [hji96] at H ⊢; exact H)
          (try (have hji96h : ji96 ≤ 512 := by (rw [← hji96]; unfold mn; (repeat' split) <;> omega)))
          (try (have hji96g : ji96 ≤ 64 := by omega))
          have hji96_ : (if 512 < a2 then 512 else a2) = ji96 := hji96
          obtain ⟨ji97, hji97⟩ : ∃ j_ : Int, (mx 0 (ji96)) = j_ := ⟨_, rfl⟩
          replace H : ((some (([] : List Int) : List Int)).bind fun y179 => (if 0 ≤ (ji97) then (if (ji97) ≤ (l1.length : Int) then (if y179.length + (l1.take ((ji97) : Int).toNat).length < 140737488355328 then ((some (y179 ++ (l1.take ((ji97) : Int).toNat) : List Int)).bind fun y183 => (if (ji97) ≤ (l0.length : Int) then (if y183.length + (l0.drop ((ji97) : Int).toNat).length < 140737488355328 then (some (y183 ++ (l0.drop ((ji97) : Int).toNat))) else (none)) else (none))) else (none)) else (none)) else (none))) = some r := by first | (rw [hji97] at H; exact H) | (simp only [hji97] at H ⊢; exact H)
          have hji97_ : (if 0 < (ji96) then (ji96) else 0) = ji97 := hji97
          obtain ⟨y179, hy179⟩ : ∃ y_ : List Int, y_ = (([] : List Int)) := ⟨_, rfl⟩
          replace H : (if 0 ≤ (ji97) then (if (ji97) ≤ (l1.length : Int) then (if y179.length + (l1.take ((ji97) : Int).toNat).length < 140737488355328 then ((some (y179 ++ (l1.take ((ji97) : Int).toNat) : List Int)).bind fun y183 => (if (ji97) ≤ (l0.length : Int) then (if y183.length + (l0.drop ((ji97) : Int).toNat).length < 140737488355328 then (some (y183 ++ (l0.drop ((ji97) : Int).toNat))) else (none)) else (none))) else (none)) else (none)) else (none)) = some r := by first | (rw [hy179]; with_reducible exact H) | (have H2_ := (Option.bind_some _ _).symm.trans H; rw [hy179]; with_reducible exact H2_) | (have H2_ := (Option.bind_some _ _).symm.trans H; with_reducible exact H2_) | with_reducible exact H | (rw [hy179]; exact H) | exact H
          have Ny179 := Aside0.mk hy179
          clear hy179
          by_cases c98 : 0 ≤ (ji97)
          · rw [if_pos c98] at H
            have c98b0 := eq_true c98
            have c98b1 : decide (0 ≤ (ji97)) = true := decide_eq_true c98
            clear c98
            by_cases c99 : (ji97) ≤ (l1.length : Int)
            · rw [if_pos c99] at H
              have c99b0 := eq_true c99
              have c99b1 : decide ((ji97) ≤ (l1.length : Int)) = true := decide_eq_true c99
              clear c99
              by_cases c100 : y179.length + (l1.take ((ji97) : Int).toNat).length < 140737488355328
              · rw [if_pos c100] at H
                have LMc100 := Aside0.mk c100
                clear c100
                obtain ⟨y183, hy183⟩ : ∃ y_ : List Int, y_ = (y179 ++ (l1.take ((ji97) : Int).toNat)) := ⟨_, rfl⟩
                replace H : (if (ji97) ≤ (l0.length : Int) then (if y183.length + (l0.drop ((ji97) : Int).toNat).length < 140737488355328 then (some (y183 ++ (l0.drop ((ji97) : Int).toNat))) else (none)) else (none)) = some r := by first | (rw [hy183]; with_reducible exact H) | (have H2_ := (Option.bind_some _ _).symm.trans H; rw [hy183]; with_reducible exact H2_) | (have H2_ := (Option.bind_some _ _).symm.trans H; with_reducible exact H2_) | with_reducible exact H | (rw [hy183]; exact H) | exact H
                have Ny183 := Aside0.mk hy183
                clear hy183
                have c101b0 := eq_true (of_decide_eq_true (by first | (with_reducible assumption) | assumption) : 0 ≤ (ji97))
                by_cases c102 : (ji97) ≤ (l0.length : Int)
                · rw [if_pos c102] at H
                  have c102b0 := eq_true c102
                  have c102b1 : decide ((ji97) ≤ (l0.length : Int)) = true := decide_eq_true c102
                  clear c102
                  by_cases c103 : y183.length + (l0.drop ((ji97) : Int).toNat).length < 140737488355328
                  · rw [if_pos c103] at H
                    have LMc103 := Aside0.mk c103
                    clear c103
                    obtain ⟨y187, hy187⟩ : ∃ y_ : List Int, y_ = (y183 ++ (l0.drop ((ji97) : Int).toNat)) := ⟨_, rfl⟩
                    replace H : (some y187) = some r := by first | (rw [hy187]; with_reducible exact H) | (have H2_ := (Option.bind_some _ _).symm.trans H; rw [hy187]; with_reducible exact H2_) | (have H2_ := (Option.bind_some _ _).symm.trans H; with_reducible exact H2_) | with_reducible exact H | (rw [hy187]; exact H) | exact H
                    have Ny187 := Aside0.mk hy187
                    clear hy187
                    obtain rfl := Option.some.inj H
                    go_enter Try.func6, Try.ntmps6
                    try go_wp2
                    have n0_ := Aside0.mk (below_drew1 HB.out)
                    clear HB
                    have HB := n0_
                    clear n0_
                    obtain ⟨i0105, hi0105, _, hsz105, _⟩ := info_parts info5
                    obtain ⟨hcut105, hA105, hC105⟩ := print_take_of (P := Try.prog) (Value.int .u8) 0 22 5 .i64 Try.underlying22 hi0105 hsz105 A1 c1 l1 (ji97) (of_decide_eq_true (by first | (with_reducible assumption) | assumption)) (of_decide_eq_true (by first | (with_reducible assumption) | assumption)) HC1.out
                    have HR182 := Aside0.mk (Kd.C_of_reads (h1 := fun _ => rfl) (hA105 _ (Kd.reads_of_C HR1.out)))
                    have HC182 := Aside0.mk hC105
                    clear hA105 hC105 hi0105 hsz105
                    obtain ⟨i0106, hi0106, _, hsz106, _⟩ := info_parts info5
                    obtain ⟨A106, hcut106, hA106, hC106⟩ := print_drop_of (P := Try.prog) (Value.int .u8) 0 22 5 .i64 Try.underlying22 hi0106 hsz106 A0 c0 l0 (ji97) (of_decide_eq_true (by first | (with_reducible assumption) | assumption)) (of_decide_eq_true (by first | (with_reducible assumption) | assumption)) HC0.out
                    have HR186 := Aside0.mk (Kd.C_of_reads (h1 := fun _ => rfl) (hA106 _ (Kd.reads_of_C HR0.out)))
                    have HC186 := Aside0.mk hC106
                    clear hA106 hC106 hi0106 hsz106
                    refine start_ (n := 10) (S := fun w' => True) (ds := []) #[false, false, false, false, false, false, false, false, false, false] (by kernel_rfl) rfl rfl trivial (fun hHeld => ?_); refine with_tabW impl_Tear.tab8 impl_Tear.bits8 (fun HT_ HW_ => ?_)
                    generalize w.drew = w104 at HB HR182 HR186 hHeld ⊢
                    refine pure_ (i := 1) (N := some 27) (v := ?_) (a' := ?_) #[false, true, false, false, false, false, false, false, false, false] rfl rfl (any_of HT_.out (by kernel_rfl)) (fun _ _ _ h => h) (Or.inl ⟨by rfl, ?_⟩) ?_ ?_
                    rotate_left
                    · intro w'
                      go_simp
                      with_reducible rfl
                    rotate_left
                    · simp only [Act.put, List.setIfInBounds_toArray, List.set_cons_zero, List.set_cons_succ, i64_w, i32_w]
                      rfl
                    refine pure_ (i := 2) (N := some 28) (v := ?_) (a' := ?_) #[false, true, true, false, false, false, false, false, false, false] rfl rfl (any_of HT_.out (by kernel_rfl)) (fun _ _ _ h => h) (Or.inl ⟨by rfl, ?_⟩) ?_ ?_
                    rotate_left
                    · intro w'
                      go_simp
                      with_reducible rfl
                    rotate_left
                    · simp only [Act.put, List.setIfInBounds_toArray, List.set_cons_zero, List.set_cons_succ, i64_w, i32_w]
                      rfl
                    refine pure_ (i := 3) (N := some 29) (v := ?_) (a' := ?_) #[false, true, true, true, false, false, false, false, false, false] rfl rfl (any_of HT_.out (by kernel_rfl)) (fun _ _ _ h => h) (Or.inl ⟨by rfl, ?_⟩) ?_ ?_
                    rotate_left
                    · intro w'
                      go_simp
                      with_reducible rfl
                    rotate_left
                    · simp only [Act.put, List.setIfInBounds_toArray, List.set_cons_zero, List.set_cons_succ, i64_w, i32_w]
                      rfl
                    refine pure_ (i := 5) (N := some 31) (v := ?_) (a' := ?_) #[false, true, true, true, false, true, false, false, false, false] rfl rfl (any_of HT_.out (by kernel_rfl)) (fun _ _ _ h => h) (Or.inl ⟨by rfl, ?_⟩) ?_ ?_
                    rotate_left
                    · intro w'
                      go_simp
                      with_reducible rfl
                    rotate_left
                    · simp only [Act.put, List.setIfInBounds_toArray, List.set_cons_zero, List.set_cons_succ, i64_w, i32_w]
                      rfl
                    refine pure_ (i := 6) (N := some 32) (v := ?_) (a' := ?_) #[false, true, true, true, false, true, true, false, false, false] rfl rfl (any_of HT_.out (by kernel_rfl)) (fun _ _ _ h => h) (Or.inl ⟨by rfl, ?_⟩) ?_ ?_
                    rotate_left
                    · intro w'
                      go_simp
                      with_reducible rfl
                    rotate_left
                    · simp only [Act.put, List.setIfInBounds_toArray, List.set_cons_zero, List.set_cons_succ, i64_w, i32_w]
                      rfl
                    refine pure_ (i := 7) (N := some 33) (v := ?_) (a' := ?_) #[false, true, true, true, false, true, true, true, false, false] rfl rfl (any_of HT_.out (by kernel_rfl)) (fun _ _ _ h => h) (Or.inl ⟨by rfl, ?_⟩) ?_ ?_
                    rotate_left
                    · intro w'
                      go_simp
                      with_reducible rfl
                    rotate_left
                    · simp only [Act.put, List.setIfInBounds_toArray, List.set_cons_zero, List.set_cons_succ, i64_w, i32_w]
                      rfl
                    refine one_ (i := 0) (N := some 26) #[true, true, true, true, false, true, true, true, false, false] rfl rfl (one_of HT_.out (by kernel_rfl)) (by decide) (fun K hK => ?_)
                    refine Kd.R_lit_step (Kd.int .u8) _ 5 ?hg (N := 26) ?hd (xs := ([] : List Int)) (inner := []) (ok := fun _ => True) (okp := fun _ => True) ?hr ?hp (fun _ hk => hk) trivial (Below.refl _ _) (Nat.le_refl _) (by simp) ?_; (case hd => rfl); (case hg => rfl); (case hr => first | (go_simp; done) | (go_simp; rfl)); (case hp => exact (Reps.none _ _))
                    intro v180 w107 ho108 hb hg_ hnew_
                    clear hg_ hnew_
                    (first | rw [← Ny179.out] at ho108 | (simp only [Int.reduceToNat] at ho108; rw [← Ny179.out] at ho108))
                    have n0_ := Aside0.mk (Kd.R_lower ho108 (below_size (by repeat (first | (with_reducible first | exact HB.out | apply below_alloc | apply pw_below_drewN | apply below_drew1) | exact HB.out))))
                    have n1_ := Aside0.mk (below_step (by repeat (first | (with_reducible first | exact HB.out | apply below_alloc | apply pw_below_drewN | apply below_drew1) | exact HB.out)) hb)
                    clear HB
                    have HO181 := n0_
                    have HB := n1_
                    clear n0_ n1_
                    clear hb ho108
                    refine hK.out _ _ trivial (fun hHeld => ?_)
                    clear hK K
                    refine norm_ (a' := ?_) ?_ ?_
                    rotate_left
                    · show Act.put _ (some 26) _ = _
                      simp only [Act.put, List.setIfInBounds_toArray, List.set_cons_zero, List.set_cons_succ, i64_w, i32_w]
                      rfl
                    refine one_ (i := 4) (N := some 30) #[true, true, true, true, true, true, true, true, false, false] rfl rfl (one_of HT_.out (by kernel_rfl)) (by decide) (fun K hK => ?_)
                    refine Kd.R_append_rows_step (Kd.int .u8) (w0 := w) w.heap.size (by rfl) (.tmp 26) (.tmp 29) 22 5 (.int .u8 0) 1 rfl Try.underlying22 info5 rfl (by decide) (by omega) v180 y179 (l1.take ((ji97) : Int).toNat) _ _ _ (fun _ => True) (fun _ => False) rfl rfl ?aO ?aR (fun _ _ h => h) (fun _ h => h.elim) ?aF ?aB ?aS ?aL ?_
                    (case aR => first | (refine cut_len_ ?_ (show (l1.take ((ji97) : Int).toNat).length = (ji97).toNat from (by rw [List.length_take]; have h_ : ((ji97) : Int) ≤ (l1.length : Int) := of_decide_eq_true (by first | (with_reducible assumption) | assumption); omega)); repeat (first | exact (Kd.C_below HR182.out HB.out) | (with_reducible refine Kd.C_alloc ?_ _) | (with_reducible refine Kd.C_drewN ?_ _) | (with_reducible refine Kd.C_drew ?_))) | (repeat (first | exact (Kd.C_below HR182.out HB.out) | (with_reducible refine Kd.C_alloc ?_ _) | (with_reducible refine Kd.C_drewN ?_ _) | (with_reducible refine Kd.C_drew ?_))))
                    (case aB => exact (by repeat (first | (with_reducible first | exact HB.out | apply below_alloc | apply pw_below_drewN | apply below_drew1) | exact HB.out)))
                    (case aF => exact (fun _ _ => trivial))
                    (case aO => exact (by (with_reducible repeat (first | apply Kd.R_alloc | apply Kd.R_drewN | apply Kd.R_drew)); exact HO181.out))
                    (case aS => exact (below_size (by repeat (first | (with_reducible first | exact HB.out | apply below_alloc | apply pw_below_drewN | apply below_drew1) | exact HB.out))))
                    (case aL => have := LMc100.out; have hlx_ := (show (l1.take ((ji97) : Int).toNat).length = (ji97).toNat from (by rw [List.length_take]; have h_ : ((ji97) : Int) ≤ (l1.length : Int) := of_decide_eq_true (by first | (with_reducible assumption) | assumption); omega)); omega)
                    intro v184 w109 ho hb hg hat
                    rw [← Ny183.out] at ho
                    have n0_ := Aside0.mk (hb)
                    have n1_ := Aside0.mk (ho)
                    clear HB
                    clear HO181
                    have HB := n0_
                    have HO185 := n1_
                    clear n0_ n1_
                    clear ho hb hg hat
                    refine hK.out _ _ trivial (fun hHeld => ?_)
                    clear hK K
                    refine norm_ (a' := ?_) ?_ ?_
                    rotate_left
                    · show Act.put _ (some 30) _ = _
                      simp only [Act.put, List.setIfInBounds_toArray, List.set_cons_zero, List.set_cons_succ, i64_w, i32_w]
                      rfl
                    refine one_ (i := 8) (N := some 34) #[true, true, true, true, true, true, true, true, true, false] rfl rfl (one_of HT_.out (by kernel_rfl)) (by decide) (fun K hK => ?_)
                    refine Kd.R_append_rows_step (Kd.int .u8) (w0 := w) w.heap.size (by rfl) (.tmp 30) (.tmp 33) 22 5 (.int .u8 0) 1 rfl Try.underlying22 info5 rfl (by decide) (by omega) v184 y183 (l0.drop ((ji97) : Int).toNat) _ _ _ (fun _ => True) (fun _ => False) rfl rfl ?aO ?aR (fun _ _ h => h) (fun _ h => h.elim) ?aF ?aB ?aS ?aL ?_
                    (case aR => first | (rw [← show (l0.drop ((ji97) : Int).toNat).length = (l0.length - (ji97).toNat) from List.length_drop]; repeat (first | exact (Kd.C_below HR186.out HB.out) | (with_reducible refine Kd.C_alloc ?_ _) | (with_reducible refine Kd.C_drewN ?_ _) | (with_reducible refine Kd.C_drew ?_))) | (repeat (first | exact (Kd.C_below HR186.out HB.out) | (with_reducible refine Kd.C_alloc ?_ _) | (with_reducible refine Kd.C_drewN ?_ _) | (with_reducible refine Kd.C_drew ?_))))
                    (case aB => exact (by repeat (first | (with_reducible first | exact HB.out | apply below_alloc | apply pw_below_drewN | apply below_drew1) | exact HB.out)))
                    (case aF => exact (fun _ _ => trivial))
                    (case aO => exact (by (with_reducible repeat (first | apply Kd.R_alloc | apply Kd.R_drewN | apply Kd.R_drew)); exact HO185.out))
                    (case aS => exact (below_size (by repeat (first | (with_reducible first | exact HB.out | apply below_alloc | apply pw_below_drewN | apply below_drew1) | exact HB.out))))
                    (case aL => have := LMc103.out; have hlx_ := (show (l0.drop ((ji97) : Int).toNat).length = (l0.length - (ji97).toNat) from List.length_drop); omega)
                    intro v188 w110 ho hb hg hat
                    rw [← Ny187.out] at ho
                    have n0_ := Aside0.mk (hb)
                    have n1_ := Aside0.mk (ho)
                    clear HB
                    clear HO185
                    have HB := n0_
                    have HO189 := n1_
                    clear n0_ n1_
                    clear ho hb hg hat
                    refine hK.out _ _ trivial (fun hHeld => ?_)
                    clear hK K
                    refine norm_ (a' := ?_) ?_ ?_
                    rotate_left
                    · show Act.put _ (some 34) _ = _
                      simp only [Act.put, List.setIfInBounds_toArray, List.set_cons_zero, List.set_cons_succ, i64_w, i32_w]
                      rfl
                    refine pure_ (i := 9) (N := some 6) (v := ?_) (a' := ?_) #[true, true, true, true, true, true, true, true, true, true] rfl rfl (any_of HT_.out (by kernel_rfl)) (fun _ _ _ h => h) (Or.inl ⟨by rfl, ?_⟩) ?_ ?_
                    rotate_left
                    · intro w'
                      go_simp
                      with_reducible rfl
                    rotate_left
                    · simp only [Act.put, List.setIfInBounds_toArray, List.set_cons_zero, List.set_cons_succ, i64_w, i32_w]
                      rfl
                    refine done_ (done_of HT_.out (by kernel_rfl)) ?_
                    try go_wp2
                    go_ret
                    exact ⟨_, by first | rfl | (simp [errW_none, errW_some] <;> rfl) | (simp only [← hji96, ← hji97]; first | rfl | (simp [errW_none, errW_some] <;> rfl)) | (simp [*, errW_none, errW_some] <;> rfl), by (with_reducible repeat (first | apply Kd.R_alloc | apply Kd.R_drewN | apply Kd.R_drew)); exact HO189.out, by repeat (first | (with_reducible first | exact HB.out | apply below_alloc | apply pw_below_drewN | apply below_drew1) | exact HB.out)⟩
                  · rw [if_neg c103] at H
                    exact absurd H (by simp)
                · rw [if_neg c102] at H
                  exact absurd H (by simp)
              · rw [if_neg c100] at H
                exact absurd H (by simp)
            · rw [if_neg c99] at H
              exact absurd H (by simp)
          · rw [if_neg c98] at H
            exact absurd H (by simp)
        · rw [if_neg c95] at H
          have c95b0 : ((l1.length : Int) == 512) = false := beq_eq_false_iff_ne.mpr c95
          have c95b1 : ((l1.length : Int) != 512) = true := bne_iff_ne.mpr c95
          obtain rfl := Option.some.inj H
          go_enter Try.func6, Try.ntmps6
          go_wp2
          go_ret
          exact ⟨_, by first | rfl | (simp [errW_none, errW_some] <;> rfl) | (simp [*, errW_none, errW_some] <;> rfl), by first | exact Kd.R_nil _ _ _ _ _ | exact Kd.N_nil _ _ _ _ _ | exact Kd.V_nil _ _ _ _ _ | exact Kd.Q_nil _ _ _ _ _ | exact Kd.S_nil _ _ _ _ _, by repeat (first | (with_reducible first | exact HB.out | apply below_alloc | apply pw_below_drewN | apply below_drew1) | exact HB.out)⟩
      · rw [if_neg c94] at H
        have c94b0 : ((l0.length : Int) == 512) = false := beq_eq_false_iff_ne.mpr c94
        have c94b1 : ((l0.length : Int) != 512) = true := bne_iff_ne.mpr c94
        obtain rfl := Option.some.inj H
        go_enter Try.func6, Try.ntmps6
        go_wp2
        go_ret
        exact ⟨_, by first | rfl | (simp [errW_none, errW_some] <;> rfl) | (simp [*, errW_none, errW_some] <;> rfl), by first | exact Kd.R_nil _ _ _ _ _ | exact Kd.N_nil _ _ _ _ _ | exact Kd.V_nil _ _ _ _ _ | exact Kd.Q_nil _ _ _ _ _ | exact Kd.S_nil _ _ _ _ _, by repeat (first | (with_reducible first | exact HB.out | apply below_alloc | apply pw_below_drewN | apply below_drew1) | exact HB.out)⟩

end Go.Proofs.Ytdlbeiebhngodaa.PFnExactTear
