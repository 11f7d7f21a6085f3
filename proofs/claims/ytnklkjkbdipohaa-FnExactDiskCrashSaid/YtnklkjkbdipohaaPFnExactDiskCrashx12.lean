-- A program of this claim's session wrote this text.
import Derived.Test.YtnklkjkbdipohaaPFnExactDiskCrashx0
import Derived.Test.YtnklkjkbdipohaaPFnExactDiskCrashx9
import Derived.Test.YtnklkjkbdipohaaPFnExactDiskCrashx10
import Derived.Test.YtnklkjkbdipohaaPFnExactDiskCrashx11
namespace Go.Proofs.Ytnklkjkbdipohaa.PFnExactDiskCrash
open Go.RowKit Go.Proofs.YtnklkjkbdipohaaW.PrintWords Go.Proofs.YtnklkjkbdipohaaW.PrintLast Go.Proofs.YtnklkjkbdipohaaW.PrintMore
attribute [local go_sem] max2_int min2_int max_two min_two max_three min_three max_four min_four   -- for this text's walks alone
set_option linter.unusedVariables false
set_option linter.unusedSimpArgs false

/-! ### impl_DiskCrash: function 22 -/
def impl_DiskCrash.l0 : Nat → List Int → List S98 → Int → List S101 → Option (List S101)
  | 0, _, _, _, _ => none
  | k + 1, ks, ds, x, ss => if x < (ds.length : Int) then (if 0 ≤ x then (if x < (ks.length : Int) then (if (rd ks x) > 0 then (if 0 ≤ ((rd_T98 ds x).f0) then (if ((rd_T98 ds x).f0) < (ss.length : Int) then ((impl_Tear.f ((rd_T101 ss ((rd_T98 ds x).f0)).f0) ((rd_T98 ds x).f1) (rd ks x)).bind fun t => (impl_DiskCrash.l0 k ks ds (wrap64 (x + 1)) (ss.set ((rd_T98 ds x).f0).toNat (⟨t⟩ : S101)))) else (none)) else (none)) else (impl_DiskCrash.l0 k ks ds (wrap64 (x + 1)) ss)) else (impl_DiskCrash.l0 k ks ds (wrap64 (x + 1)) ss)) else (none)) else (some ss)
def impl_DiskCrash.f (k : Nat) (l0_0 : List S101) (l0_1 : List S98) (l1 : List Int) : Option (List S101 × List S98) := (impl_DiskOk.f k l0_0 l0_1).bind fun t => (if t = true then ((impl_copyDisk.f k l0_0 l0_1).bind fun b => ((impl_DiskCrash.l0 k l1 l0_1 0 b.1).bind fun ss => (some (ss, ([] : List S98))))) else (some (([] : List S101), ([] : List S98))))
theorem impl_DiskCrash.mono_l : ∀ k, (∀ y0 y1 y2 y3, LeO (impl_DiskCrash.l0 k y0 y1 y2 y3) (impl_DiskCrash.l0 (k + 1) y0 y1 y2 y3))
  | 0 => fun _ _ _ _ r h => by simp [impl_DiskCrash.l0] at h
  | k + 1 => by
    have ih0 := impl_DiskCrash.mono_l k
    · intro y0 y1 y2 y3
      unfold impl_DiskCrash.l0
      repeat' first
      | (with_reducible exact ih0 _ _ _ _)
      | (with_reducible exact LeO.refl _)
      | (with_reducible exact LeO.none _)
      | (with_reducible refine LeO.ite ?_ ?_)
      | (with_reducible refine LeO.bind ?_ (fun _ => ?_))
      | exact impl_DiskOk.mono _ _ k
      | exact impl_copyDisk.mono _ _ k
      | exact ih0 _ _ _ _
      | exact LeO.none _
      | refine LeO.ite ?_ ?_
      | refine LeO.bind ?_ (fun _ => ?_)
theorem impl_DiskCrash.mono : ∀ a0 a1 a2 k, LeO (impl_DiskCrash.f k a0 a1 a2) (impl_DiskCrash.f (k + 1) a0 a1 a2) := by
  intro a0 a1 a2 k
  have ih0 := impl_DiskCrash.mono_l k
  unfold impl_DiskCrash.f
  repeat' first
      | (with_reducible exact ih0 _ _ _ _)
      | (with_reducible exact LeO.refl _)
      | (with_reducible exact LeO.none _)
      | (with_reducible refine LeO.ite ?_ ?_)
      | (with_reducible refine LeO.bind ?_ (fun _ => ?_))
      | exact impl_DiskOk.mono _ _ k
      | exact impl_copyDisk.mono _ _ k
      | exact ih0 _ _ _ _
      | exact LeO.none _
      | refine LeO.ite ?_ ?_
      | refine LeO.bind ?_ (fun _ => ?_)
set_option maxHeartbeats 8000000 in
set_option maxRecDepth 100000 in
theorem impl_DiskCrash.calls (k : Nat) (A0_0 : Option Addr) (c0_0 : Nat) (l0_0 : List (S101)) (A0_1 : Option Addr) (c0_1 : Nat) (l0_1 : List (S98)) (A1 : Option Addr) (c1 : Nat) (l1 : List Int) (r1 : List (S101)) (r2 : List (S98)) (w : World) (hr0_0 : Kd.C k101 w A0_0 l0_0.length l0_0) (hc0_0 : l0_0.length ≤ c0_0) (hr0_1 : Kd.C k98 w A0_1 l0_1.length l0_1) (hc0_1 : l0_1.length ≤ c0_1) (hr1 : Kd.C (Kd.int .i64) w A1 l1.length l1) (hc1 : l1.length ≤ c1) (h : impl_DiskCrash.f k l0_0 l0_1 l1 = some (r1, r2)) :
    Calls Try.prog 22 #[.agg #[.slice A0_0 l0_0.length c0_0, .slice A0_1 l0_1.length c0_1], .slice A1 l1.length c1] w fun e w' => ∃ v0_ v1_ : Value, e = .returned (.agg #[v0_, v1_]) ∧ Kd.S k101 101 w' w.heap.size (fun _ => True) v0_ r1 ∧ Kd.S k98 98 w' w.heap.size (fun _ => True) v1_ r2 ∧ Below w.heap.size w w' := by
  have hu30 := Try.underlying30
  have hu98 := Try.underlying98
  have hu101 := Try.underlying101
  have HR0_0 := Aside0.mk hr0_0
  have HC0_0 := Aside0.mk hc0_0
  have HR0_1 := Aside0.mk hr0_1
  have HC0_1 := Aside0.mk hc0_1
  have HR1 := Aside0.mk hr1
  have HC1 := Aside0.mk hc1
  clear hr0_0 hc0_0 hr0_1 hc0_1 hr1 hc1
  have HB := Aside0.mk (Below.refl w.heap.size w)
  unfold impl_DiskCrash.f at h
  obtain ⟨t0, e0, h⟩ := Option.bind_eq_some_iff.mp h
  have E0 := Aside0.mk e0
  clear e0
  by_cases ct : t0 = true
  · subst ct
    rw [if_pos rfl] at h
    obtain ⟨⟨b1, b2⟩, e1, h⟩ := Option.bind_eq_some_iff.mp h
    have E1 := Aside0.mk e1
    obtain ⟨rs, e2, h⟩ := Option.bind_eq_some_iff.mp h
    simp only [Option.some.injEq, Prod.mk.injEq] at h
    obtain ⟨rfl, rfl⟩ := h
    have H' := Aside0.mk (show impl_DiskCrash.l0 k l1 l0_1 0 b1 = some rs from e2)
    clear e1 e2
    go_enter Try.func22, Try.ntmps22
    go_wp2_with (first | ((with_reducible refine gate_dst (N := 2) rfl ?_); refine box_event ?hg (N := 2) ?hd (cs := #[.slice A0_0 l0_0.length c0_0, .slice A0_1 l0_1.length c0_1]) (t := 30) ?hr ?_; (case hd => rfl); (case hg => rfl); (case hr => first | (go_simp; done) | (go_simp; rfl)); intro gb2 hg w1 hbox hb; have GE2 := Aside0.mk (show w.heap.size ≤ gb2 by have := below_size HB.out; omega); have n_HB := Aside0.mk (below_step HB.out hb); clear HB; have HB := n_HB; clear n_HB; have BK2 := Aside0.mk hbox; clear hb hbox hg; (try clear hz2_0); (try clear hz2_1); have hz2_0 : w1.cell? ⟨gb2, 0, none⟩ = some (.slice A0_0 l0_0.length c0_0) := (blk_cell BK2.out 0).trans rfl; have hz2_1 : w1.cell? ⟨gb2, 1, none⟩ = some (.slice A0_1 l0_1.length c0_1) := (blk_cell BK2.out 1).trans rfl; (try clear hf2_0); (try clear hf2_1); have hf2_0 := blk_frozen BK2.out 0; have hf2_1 := blk_frozen BK2.out 1) | ((with_reducible refine gate_dst (N := 4) rfl ?_); refine box_event ?hg (N := 4) ?hd (cs := #[.slice none 0 0, .slice none 0 0]) (t := 30) ?hr ?_; (case hd => rfl); (case hg => rfl); (case hr => first | (go_simp; done) | (go_simp; rfl)); intro gb4 hg w2 hbox hb; have NE2_4 := Aside0.mk (show gb2 ≠ gb4 by have := blk_lt BK2.out; omega); have GE4 := Aside0.mk (show w.heap.size ≤ gb4 by have := below_size HB.out; omega); have n_BK2 := Aside0.mk (blk_below BK2.out hb); have n_HB := Aside0.mk (below_step HB.out hb); clear BK2 HB; have BK2 := n_BK2; have HB := n_HB; clear n_BK2 n_HB; have BK4 := Aside0.mk hbox; clear hb hbox hg; (try clear hz2_0); (try clear hz2_1); have hz2_0 : w2.cell? ⟨gb2, 0, none⟩ = some (.slice A0_0 l0_0.length c0_0) := (blk_cell BK2.out 0).trans rfl; have hz2_1 : w2.cell? ⟨gb2, 1, none⟩ = some (.slice A0_1 l0_1.length c0_1) := (blk_cell BK2.out 1).trans rfl; (try clear hf2_0); (try clear hf2_1); have hf2_0 := blk_frozen BK2.out 0; have hf2_1 := blk_frozen BK2.out 1; (try clear hz4_0); (try clear hz4_1); have hz4_0 : w2.cell? ⟨gb4, 0, none⟩ = some (.slice none 0 0) := (blk_cell BK4.out 0).trans rfl; have hz4_1 : w2.cell? ⟨gb4, 1, none⟩ = some (.slice none 0 0) := (blk_cell BK4.out 1).trans rfl; (try clear hf4_0); (try clear hf4_1); have hf4_0 := blk_frozen BK4.out 0; have hf4_1 := blk_frozen BK4.out 1) | ((with_reducible refine gate_callee (f := 60) rfl ?_); refine goesL_ (some 10) rfl rfl Try.func60 (by kernel_rfl) rfl #[.agg #[.slice A0_0 l0_0.length c0_0, .slice A0_1 l0_1.length c0_1]] rfl (by (try simp only [List.map_toArray, List.map_cons, List.map_nil]); first | done | rfl) ?_; (with_reducible refine (impl_DiskOk.calls k _ _ l0_0 _ _ l0_1 _ _ ?side1 ?side2 ?side3 ?side4 E0.out).mono ?_); (case side1 => exact Kd.C_below HR0_0.out HB.out); (case side2 => exact HC0_0.out); (case side3 => exact Kd.C_below HR0_1.out HB.out); (case side4 => exact HC0_1.out); rintro e w3 ⟨rfl, hb⟩; refine ⟨_, rfl, ?_⟩; have n_BK2 := Aside0.mk (blk_below BK2.out hb); have n_BK4 := Aside0.mk (blk_below BK4.out hb); have n_HB := Aside0.mk (below_step HB.out hb); clear BK2 BK4 HB; have BK2 := n_BK2; have BK4 := n_BK4; have HB := n_HB; clear n_BK2 n_BK4 n_HB; clear hb; (try clear hz2_0); (try clear hz2_1); have hz2_0 : w3.cell? ⟨gb2, 0, none⟩ = some (.slice A0_0 l0_0.length c0_0) := (blk_cell BK2.out 0).trans rfl; have hz2_1 : w3.cell? ⟨gb2, 1, none⟩ = some (.slice A0_1 l0_1.length c0_1) := (blk_cell BK2.out 1).trans rfl; (try clear hf2_0); (try clear hf2_1); have hf2_0 := blk_frozen BK2.out 0; have hf2_1 := blk_frozen BK2.out 1; (try clear hz4_0); (try clear hz4_1); have hz4_0 : w3.cell? ⟨gb4, 0, none⟩ = some (.slice none 0 0) := (blk_cell BK4.out 0).trans rfl; have hz4_1 : w3.cell? ⟨gb4, 1, none⟩ = some (.slice none 0 0) := (blk_cell BK4.out 1).trans rfl; (try clear hf4_0); (try clear hf4_1); have hf4_0 := blk_frozen BK4.out 0; have hf4_1 := blk_frozen BK4.out 1) | ((with_reducible refine gate_callee (f := 74) rfl ?_); refine goesL_ (some 14) rfl rfl Try.func74 (by kernel_rfl) rfl #[.agg #[.slice A0_0 l0_0.length c0_0, .slice A0_1 l0_1.length c0_1]] rfl (by (try simp only [List.map_toArray, List.map_cons, List.map_nil]); first | done | rfl) ?_; (with_reducible refine (impl_copyDisk.calls k _ _ l0_0 _ _ l0_1 b1 b2 _ ?side1 ?side2 ?side3 ?side4 E1.out).mono ?_); (case side1 => exact Kd.C_below HR0_0.out HB.out); (case side2 => exact HC0_0.out); (case side3 => exact Kd.C_below HR0_1.out HB.out); (case side4 => exact HC0_1.out); rintro e w4 ⟨v0, v1, rfl, ho0, ho1, hb⟩; refine ⟨_, rfl, ?_⟩; obtain ⟨Au, cu, rfl⟩ := Kd.S_slice ho0; obtain ⟨Av, cv, rfl⟩ := Kd.S_slice ho1; have m0 := Heap.newS HB.out ho0; have hsz := below_size HB.out; have n_BK2 := Aside0.mk (blk_below BK2.out hb); have n_BK4 := Aside0.mk (blk_below BK4.out hb); have n_HB := Aside0.mk (below_step HB.out hb); clear BK2 BK4 HB; have BK2 := n_BK2; have BK4 := n_BK4; have HB := n_HB; clear n_BK2 n_BK4 n_HB; have HS := Aside0.mk (Kd.S_mono m0 (ok' := fun k_ => w.heap.size ≤ k_) (fun k_ hk_ => by have := hk_.1; omega)); clear m0 ho0 ho1 hb hsz; (try clear hz2_0); (try clear hz2_1); have hz2_0 : w4.cell? ⟨gb2, 0, none⟩ = some (.slice A0_0 l0_0.length c0_0) := (blk_cell BK2.out 0).trans rfl; have hz2_1 : w4.cell? ⟨gb2, 1, none⟩ = some (.slice A0_1 l0_1.length c0_1) := (blk_cell BK2.out 1).trans rfl; (try clear hf2_0); (try clear hf2_1); have hf2_0 := blk_frozen BK2.out 0; have hf2_1 := blk_frozen BK2.out 1; (try clear hz4_0); (try clear hz4_1); have hz4_0 : w4.cell? ⟨gb4, 0, none⟩ = some (.slice none 0 0) := (blk_cell BK4.out 0).trans rfl; have hz4_1 : w4.cell? ⟨gb4, 1, none⟩ = some (.slice none 0 0) := (blk_cell BK4.out 1).trans rfl; (try clear hf4_0); (try clear hf4_1); have hf4_0 := blk_frozen BK4.out 0; have hf4_1 := blk_frozen BK4.out 1) | ((with_reducible refine gate_dst (N := 5) rfl ?_); refine box_event ?hg (N := 5) ?hd (cs := #[.slice none 0 0, .slice none 0 0]) (t := 30) ?hr ?_; (case hd => rfl); (case hg => rfl); (case hr => first | (go_simp; done) | (go_simp; rfl)); intro gb5 hg w5 hbox hb; have NE2_5 := Aside0.mk (show gb2 ≠ gb5 by have := blk_lt BK2.out; omega); have NE4_5 := Aside0.mk (show gb4 ≠ gb5 by have := blk_lt BK4.out; omega); have GE5 := Aside0.mk (show w.heap.size ≤ gb5 by have := below_size HB.out; omega); have n_BK2 := Aside0.mk (blk_below BK2.out hb); have n_BK4 := Aside0.mk (blk_below BK4.out hb); have n_HS := Aside0.mk (Kd.S_below HS.out hb); have n_HB := Aside0.mk (below_step HB.out hb); clear BK2 BK4 HS HB; have BK2 := n_BK2; have BK4 := n_BK4; have HS := n_HS; have HB := n_HB; clear n_BK2 n_BK4 n_HS n_HB; have BK5 := Aside0.mk hbox; clear hb hbox hg; (try clear hz2_0); (try clear hz2_1); have hz2_0 : w5.cell? ⟨gb2, 0, none⟩ = some (.slice A0_0 l0_0.length c0_0) := (blk_cell BK2.out 0).trans rfl; have hz2_1 : w5.cell? ⟨gb2, 1, none⟩ = some (.slice A0_1 l0_1.length c0_1) := (blk_cell BK2.out 1).trans rfl; (try clear hf2_0); (try clear hf2_1); have hf2_0 := blk_frozen BK2.out 0; have hf2_1 := blk_frozen BK2.out 1; (try clear hz4_0); (try clear hz4_1); have hz4_0 : w5.cell? ⟨gb4, 0, none⟩ = some (.slice none 0 0) := (blk_cell BK4.out 0).trans rfl; have hz4_1 : w5.cell? ⟨gb4, 1, none⟩ = some (.slice none 0 0) := (blk_cell BK4.out 1).trans rfl; (try clear hf4_0); (try clear hf4_1); have hf4_0 := blk_frozen BK4.out 0; have hf4_1 := blk_frozen BK4.out 1; (try clear hz5_0); (try clear hz5_1); have hz5_0 : w5.cell? ⟨gb5, 0, none⟩ = some (.slice none 0 0) := (blk_cell BK5.out 0).trans rfl; have hz5_1 : w5.cell? ⟨gb5, 1, none⟩ = some (.slice none 0 0) := (blk_cell BK5.out 1).trans rfl; (try clear hf5_0); (try clear hf5_1); have hf5_0 := blk_frozen BK5.out 0; have hf5_1 := blk_frozen BK5.out 1) | ((with_reducible refine gate_store (t := 30) (p := 5) rfl ?_); refine store_event (t := 30) (p := 5) (v := ?vo_w6) (w1 := ((w5.setCell ⟨gb5, 0, none⟩ (.slice Au b1.length cu)).setCell ⟨gb5, 1, none⟩ (.slice Av b2.length cv))) ?hg ?ho ?hn ?hr ?_; (case ho => rfl); (case hg => rfl); (case hn => rfl); (case hr => first | (go_simp; done) | (go_simp; rfl)); intro w6 hw; have hbn : w6.heap[gb5]? = some (.cells #[.slice Au b1.length cu, .slice Av b2.length cv] 30 (0, 0)) := (by rw [hw]; exact (blk_put (cs := #[.slice Au b1.length cu, .slice none 0 0]) (blk_put (cs := #[.slice none 0 0, .slice none 0 0]) BK5.out 0 (.slice Au b1.length cu) rfl) 1 (.slice Av b2.length cv) rfl)); have hkp : Kept w5 w6 (fun k_ => k_ = gb5) := (by rw [hw]; exact Kept.setCell (Kept.setCell (Kept.refl w5 (fun k_ => k_ = gb5)) (p := ⟨gb5, 0, none⟩) (.inl rfl) _) (p := ⟨gb5, 1, none⟩) (.inl rfl) _); have hsc : Below 0 w5 w6 := (by rw [hw]; exact ((Below.refl 0 w5).setCell (p := ⟨gb5, 0, none⟩) (Nat.zero_le _) _).setCell (p := ⟨gb5, 1, none⟩) (Nat.zero_le _) _); clear hw; have n_BK2 := Aside0.mk (blk_kept BK2.out hkp (fun hq => NE2_5.out hq)); have n_BK4 := Aside0.mk (blk_kept BK4.out hkp (fun hq => NE4_5.out hq)); have n_HS := Aside0.mk (Kd.S_mono (Kd.S_kept (Kd.S_types HS.out BK5.out (by decide)) hkp (fun k hk hq => hk.2 hq)) (fun k hk => hk.1)); have n_HB := Aside0.mk (Heap.below_kept HB.out hsc hkp (fun k hq => by have := GE5.out; omega)); clear BK5 BK2 BK4 HS HB; have BK2 := n_BK2; have BK4 := n_BK4; have HS := n_HS; have HB := n_HB; have BK5 := Aside0.mk hbn; clear hbn hkp hsc n_BK2 n_BK4 n_HS n_HB; (try clear hz2_0); (try clear hz2_1); have hz2_0 : w6.cell? ⟨gb2, 0, none⟩ = some (.slice A0_0 l0_0.length c0_0) := (blk_cell BK2.out 0).trans rfl; have hz2_1 : w6.cell? ⟨gb2, 1, none⟩ = some (.slice A0_1 l0_1.length c0_1) := (blk_cell BK2.out 1).trans rfl; (try clear hf2_0); (try clear hf2_1); have hf2_0 := blk_frozen BK2.out 0; have hf2_1 := blk_frozen BK2.out 1; (try clear hz4_0); (try clear hz4_1); have hz4_0 : w6.cell? ⟨gb4, 0, none⟩ = some (.slice none 0 0) := (blk_cell BK4.out 0).trans rfl; have hz4_1 : w6.cell? ⟨gb4, 1, none⟩ = some (.slice none 0 0) := (blk_cell BK4.out 1).trans rfl; (try clear hf4_0); (try clear hf4_1); have hf4_0 := blk_frozen BK4.out 0; have hf4_1 := blk_frozen BK4.out 1; (try clear hz5_0); (try clear hz5_1); have hz5_0 : w6.cell? ⟨gb5, 0, none⟩ = some (.slice Au b1.length cu) := (blk_cell BK5.out 0).trans rfl; have hz5_1 : w6.cell? ⟨gb5, 1, none⟩ = some (.slice Av b2.length cv) := (blk_cell BK5.out 1).trans rfl; (try clear hf5_0); (try clear hf5_1); have hf5_0 := blk_frozen BK5.out 0; have hf5_1 := blk_frozen BK5.out 1))
    go_loopg [18] k (fun kq v18 w' => ∃ (x : Int) (ss : List S101) (u : Value), v18 = .int .i64 x ∧ Aside0 (impl_DiskCrash.l0 kq l1 l0_1 x ss = some rs) ∧ Aside0 (kq ≤ k) ∧ Aside0 (Kd.S k101 101 w' w.heap.size (fun k_ => w.heap.size ≤ k_) u ss) ∧ Aside0 (w'.heap[gb2]? = some (.cells #[.slice A0_0 l0_0.length c0_0, .slice A0_1 l0_1.length c0_1] 30 (0, 0))) ∧ Aside0 (w'.heap[gb4]? = some (.cells #[.slice none 0 0, .slice none 0 0] 30 (0, 0))) ∧ Aside0 (w'.heap[gb5]? = some (.cells #[u, .slice Av b2.length cv] 30 (0, 0))) ∧ Aside0 (Below w.heap.size w w'))
    case atStart => exact ⟨0, b1, _, (by first | rfl | (simp; done)), H', ⟨Nat.le_refl _⟩, HS, BK2, BK4, BK5, HB⟩
    case round =>
      clear H' HS BK2 BK4 BK5 HB
      try clear hz2_0
      try clear hf2_0
      try clear hz2_1
      try clear hf2_1
      try clear hz4_0
      try clear hf4_0
      try clear hz4_1
      try clear hf4_1
      try clear hz5_0
      try clear hf5_0
      try clear hz5_1
      try clear hf5_1
      obtain ⟨x, ss, u, rfl, HA, HK1, HS, BK2, BK4, BK5, HB⟩ := hrel
      cases gk with
      | zero => exact absurd HA.out (by simp [impl_DiskCrash.l0])
      | succ k1 =>
        have H := HA.out
        clear HA
        simp only [impl_DiskCrash.l0] at H
        by_cases c1 : x < (l0_1.length : Int)
        · rw [if_pos c1] at H
          have c1b : decide (x < (l0_1.length : Int)) = true := decide_eq_true c1
          by_cases c0 : 0 ≤ x
          · rw [if_pos c0] at H
            obtain ⟨ad, Ad, cd, ead, hx0, hx1, hl, hi⟩ := at_T98 HR0_1.out x c0 c1
            cases ead
            have hy0 := (HB.out.cell (World.block_lt_of_cell? w _ hx0)).trans hx0
            have hy1 := (HB.out.cell (World.block_lt_of_cell? w _ hx1)).trans hx1
            clear hx0 hx1
            have HRb := Aside0.mk hi
            have HCb := Aside0.mk hl
            have p1 := eq_true c0
            have q1 := eq_true c1
            have C0 := Aside0.mk c0
            have E18 := Aside0.mk (show wrap64 (x + 1) = wrap64 (x + 1) from rfl)
            clear hi hl c0 c1
            (try clear hz2_0)
            (try clear hz2_1)
            have hz2_0 : wr.cell? ⟨gb2, 0, none⟩ = some (.slice A0_0 l0_0.length c0_0) := (blk_cell BK2.out 0).trans rfl
            have hz2_1 : wr.cell? ⟨gb2, 1, none⟩ = some (.slice (some ad) l0_1.length c0_1) := (blk_cell BK2.out 1).trans rfl
            (try clear hf2_0)
            (try clear hf2_1)
            have hf2_0 := blk_frozen BK2.out 0
            have hf2_1 := blk_frozen BK2.out 1
            (try clear hz4_0)
            (try clear hz4_1)
            have hz4_0 : wr.cell? ⟨gb4, 0, none⟩ = some (.slice none 0 0) := (blk_cell BK4.out 0).trans rfl
            have hz4_1 : wr.cell? ⟨gb4, 1, none⟩ = some (.slice none 0 0) := (blk_cell BK4.out 1).trans rfl
            (try clear hf4_0)
            (try clear hf4_1)
            have hf4_0 := blk_frozen BK4.out 0
            have hf4_1 := blk_frozen BK4.out 1
            (try clear hz5_0)
            (try clear hz5_1)
            have hz5_0 : wr.cell? ⟨gb5, 0, none⟩ = some (u) := (blk_cell BK5.out 0).trans rfl
            have hz5_1 : wr.cell? ⟨gb5, 1, none⟩ = some (.slice Av b2.length cv) := (blk_cell BK5.out 1).trans rfl
            (try clear hf5_0)
            (try clear hf5_1)
            have hf5_0 := blk_frozen BK5.out 0
            have hf5_1 := blk_frozen BK5.out 1
            by_cases c2 : x < (l1.length : Int)
            · rw [if_pos c2] at H
              have c2b : decide (x < (l1.length : Int)) = true := decide_eq_true c2
              obtain ⟨ak, eak, hk0⟩ := Kd.at_int HR1.out x C0.out c2
              cases eak
              have HKC := Aside0.mk hk0
              have q2 := eq_true c2
              clear hk0 c2
              by_cases c3 : (rd l1 x) > 0
              · rw [if_pos c3] at H
                have c3b : decide (0 < (rd l1 x)) = true := decide_eq_true c3
                clear c3
                by_cases c4 : 0 ≤ ((rd_T98 l0_1 x).f0)
                · rw [if_pos c4] at H
                  by_cases c5 : ((rd_T98 l0_1 x).f0) < (ss.length : Int)
                  · rw [if_pos c5] at H
                    obtain ⟨t, et, H⟩ := Option.bind_eq_some_iff.mp H
                    have ET := Aside0.mk et
                    have H' := Aside0.mk (show impl_DiskCrash.l0 k1 l1 l0_1 (wrap64 (x + 1)) (ss.set ((rd_T98 l0_1 x).f0).toNat (⟨t⟩ : S101)) = some rs from H)
                    clear et H
                    obtain ⟨g, cap, eu, hg1, hg2, _⟩ := Kd.S_form HS.out (by omega)
                    subst eu
                    have GG := Aside0.mk (show w.heap.size ≤ g from hg1)
                    have C4 := Aside0.mk c4
                    have C5 := Aside0.mk c5
                    have p4 := eq_true c4
                    have q4 := eq_true c5
                    clear hg1 hg2 c4 c5
                    go_wp2_with (first | ((with_reducible refine gate_dst (N := 7) rfl ?_); refine box_event ?hg (N := 7) ?hd (cs := #[.int .i64 0, .slice none 0 0]) (t := 98) ?hr ?_; (case hd => rfl); (case hg => rfl); (case hr => first | (go_simp; done) | (go_simp; rfl)); intro gb7 hg w7 hbox hb; have NE2_7 := Aside0.mk (show gb2 ≠ gb7 by have := blk_lt BK2.out; omega); have NE4_7 := Aside0.mk (show gb4 ≠ gb7 by have := blk_lt BK4.out; omega); have NE5_7 := Aside0.mk (show gb5 ≠ gb7 by have := blk_lt BK5.out; omega); have GE7 := Aside0.mk (show w.heap.size ≤ gb7 by have := below_size HB.out; omega); have n_BK2 := Aside0.mk (blk_below BK2.out hb); have n_BK4 := Aside0.mk (blk_below BK4.out hb); have n_BK5 := Aside0.mk (blk_below BK5.out hb); have n_HS := Aside0.mk (Kd.S_below HS.out hb); have n_HB := Aside0.mk (below_step HB.out hb); clear BK2 BK4 BK5 HS HB; have BK2 := n_BK2; have BK4 := n_BK4; have BK5 := n_BK5; have HS := n_HS; have HB := n_HB; clear n_BK2 n_BK4 n_BK5 n_HS n_HB; have BK7 := Aside0.mk hbox; clear hb hbox hg; (try clear hz2_0); (try clear hz2_1); have hz2_0 : w7.cell? ⟨gb2, 0, none⟩ = some (.slice A0_0 l0_0.length c0_0) := (blk_cell BK2.out 0).trans rfl; have hz2_1 : w7.cell? ⟨gb2, 1, none⟩ = some (.slice (some ad) l0_1.length c0_1) := (blk_cell BK2.out 1).trans rfl; (try clear hf2_0); (try clear hf2_1); have hf2_0 := blk_frozen BK2.out 0; have hf2_1 := blk_frozen BK2.out 1; (try clear hz4_0); (try clear hz4_1); have hz4_0 : w7.cell? ⟨gb4, 0, none⟩ = some (.slice none 0 0) := (blk_cell BK4.out 0).trans rfl; have hz4_1 : w7.cell? ⟨gb4, 1, none⟩ = some (.slice none 0 0) := (blk_cell BK4.out 1).trans rfl; (try clear hf4_0); (try clear hf4_1); have hf4_0 := blk_frozen BK4.out 0; have hf4_1 := blk_frozen BK4.out 1; (try clear hz5_0); (try clear hz5_1); have hz5_0 : w7.cell? ⟨gb5, 0, none⟩ = some (.slice (some ⟨g, 0, none⟩) ss.length cap) := (blk_cell BK5.out 0).trans rfl; have hz5_1 : w7.cell? ⟨gb5, 1, none⟩ = some (.slice Av b2.length cv) := (blk_cell BK5.out 1).trans rfl; (try clear hf5_0); (try clear hf5_1); have hf5_0 := blk_frozen BK5.out 0; have hf5_1 := blk_frozen BK5.out 1; (try clear hz7_0); (try clear hz7_1); have hz7_0 : w7.cell? ⟨gb7, 0, none⟩ = some (.int .i64 0) := (blk_cell BK7.out 0).trans rfl; have hz7_1 : w7.cell? ⟨gb7, 1, none⟩ = some (.slice none 0 0) := (blk_cell BK7.out 1).trans rfl; (try clear hf7_0); (try clear hf7_1); have hf7_0 := blk_frozen BK7.out 0; have hf7_1 := blk_frozen BK7.out 1) | ((with_reducible refine gate_store (t := 98) (p := 7) rfl ?_); refine store_event (t := 98) (p := 7) (v := ?vo_w8) (w1 := ((w7.setCell ⟨gb7, 0, none⟩ (.int .i64 (rd_T98 l0_1 x).f0)).setCell ⟨gb7, 1, none⟩ (.slice Ad (rd_T98 l0_1 x).f1.length cd))) ?hg ?ho ?hn ?hr ?_; (case ho => rfl); (case hg => rfl); (case hn => rfl); (case hr => first | (go_simp; done) | (go_simp; rfl)); intro w8 hw; have hbn : w8.heap[gb7]? = some (.cells #[.int .i64 (rd_T98 l0_1 x).f0, .slice Ad (rd_T98 l0_1 x).f1.length cd] 98 (0, 0)) := (by rw [hw]; exact (blk_put (cs := #[.int .i64 (rd_T98 l0_1 x).f0, .slice none 0 0]) (blk_put (cs := #[.int .i64 0, .slice none 0 0]) BK7.out 0 (.int .i64 (rd_T98 l0_1 x).f0) rfl) 1 (.slice Ad (rd_T98 l0_1 x).f1.length cd) rfl)); have hkp : Kept w7 w8 (fun k_ => k_ = gb7) := (by rw [hw]; exact Kept.setCell (Kept.setCell (Kept.refl w7 (fun k_ => k_ = gb7)) (p := ⟨gb7, 0, none⟩) (.inl rfl) _) (p := ⟨gb7, 1, none⟩) (.inl rfl) _); have hsc : Below 0 w7 w8 := (by rw [hw]; exact ((Below.refl 0 w7).setCell (p := ⟨gb7, 0, none⟩) (Nat.zero_le _) _).setCell (p := ⟨gb7, 1, none⟩) (Nat.zero_le _) _); clear hw; have n_BK2 := Aside0.mk (blk_kept BK2.out hkp (fun hq => NE2_7.out hq)); have n_BK4 := Aside0.mk (blk_kept BK4.out hkp (fun hq => NE4_7.out hq)); have n_BK5 := Aside0.mk (blk_kept BK5.out hkp (fun hq => NE5_7.out hq)); have n_HS := Aside0.mk (Kd.S_mono (Kd.S_kept (Kd.S_types HS.out BK7.out (by decide)) hkp (fun k hk hq => hk.2 hq)) (fun k hk => hk.1)); have n_HB := Aside0.mk (Heap.below_kept HB.out hsc hkp (fun k hq => by have := GE7.out; omega)); clear BK7 BK2 BK4 BK5 HS HB; have BK2 := n_BK2; have BK4 := n_BK4; have BK5 := n_BK5; have HS := n_HS; have HB := n_HB; have BK7 := Aside0.mk hbn; clear hbn hkp hsc n_BK2 n_BK4 n_BK5 n_HS n_HB; (try clear hz2_0); (try clear hz2_1); have hz2_0 : w8.cell? ⟨gb2, 0, none⟩ = some (.slice A0_0 l0_0.length c0_0) := (blk_cell BK2.out 0).trans rfl; have hz2_1 : w8.cell? ⟨gb2, 1, none⟩ = some (.slice (some ad) l0_1.length c0_1) := (blk_cell BK2.out 1).trans rfl; (try clear hf2_0); (try clear hf2_1); have hf2_0 := blk_frozen BK2.out 0; have hf2_1 := blk_frozen BK2.out 1; (try clear hz4_0); (try clear hz4_1); have hz4_0 : w8.cell? ⟨gb4, 0, none⟩ = some (.slice none 0 0) := (blk_cell BK4.out 0).trans rfl; have hz4_1 : w8.cell? ⟨gb4, 1, none⟩ = some (.slice none 0 0) := (blk_cell BK4.out 1).trans rfl; (try clear hf4_0); (try clear hf4_1); have hf4_0 := blk_frozen BK4.out 0; have hf4_1 := blk_frozen BK4.out 1; (try clear hz5_0); (try clear hz5_1); have hz5_0 : w8.cell? ⟨gb5, 0, none⟩ = some (.slice (some ⟨g, 0, none⟩) ss.length cap) := (blk_cell BK5.out 0).trans rfl; have hz5_1 : w8.cell? ⟨gb5, 1, none⟩ = some (.slice Av b2.length cv) := (blk_cell BK5.out 1).trans rfl; (try clear hf5_0); (try clear hf5_1); have hf5_0 := blk_frozen BK5.out 0; have hf5_1 := blk_frozen BK5.out 1; (try clear hz7_0); (try clear hz7_1); have hz7_0 : w8.cell? ⟨gb7, 0, none⟩ = some (.int .i64 (rd_T98 l0_1 x).f0) := (blk_cell BK7.out 0).trans rfl; have hz7_1 : w8.cell? ⟨gb7, 1, none⟩ = some (.slice Ad (rd_T98 l0_1 x).f1.length cd) := (blk_cell BK7.out 1).trans rfl; (try clear hf7_0); (try clear hf7_1); have hf7_0 := blk_frozen BK7.out 0; have hf7_1 := blk_frozen BK7.out 1; have hk8 := (HB.out.cell (World.block_lt_of_cell? w _ HKC.out)).trans HKC.out))
                    try clear hz2_0
                    try clear hf2_0
                    try clear hz2_1
                    try clear hf2_1
                    try clear hz4_0
                    try clear hf4_0
                    try clear hz4_1
                    try clear hf4_1
                    try clear hz5_0
                    try clear hf5_0
                    try clear hz5_1
                    try clear hf5_1
                    try clear hz7_0
                    try clear hf7_0
                    try clear hz7_1
                    try clear hf7_1
                    clear hk8 hy0 hy1
                    have n_BK2 := Aside0.mk (blk_drew BK2.out)
                    have n_BK4 := Aside0.mk (blk_drew BK4.out)
                    have n_BK5 := Aside0.mk (blk_drew BK5.out)
                    have n_BK7 := Aside0.mk (blk_drew BK7.out)
                    have n_HS := Aside0.mk (Kd.S_drew HS.out)
                    have n_HB := Aside0.mk (below_drew1 HB.out)
                    clear BK2 BK4 BK5 BK7 HS HB
                    have BK2 := n_BK2
                    have BK4 := n_BK4
                    have BK5 := n_BK5
                    have BK7 := n_BK7
                    have HS := n_HS
                    have HB := n_HB
                    clear n_BK2 n_BK4 n_BK5 n_BK7 n_HS n_HB
                    obtain ⟨oki0, ce0, hcl0, hM0, hcc0, hoki0, hH0⟩ := Kd.S_lend HS.out z101 ((rd_T98 l0_1 x).f0) C4.out C5.out
                    obtain ⟨v0, rfl, hR0⟩ := k101_openM hM0
                    replace hR0 : (Kd.int .u8).R 5 _ w.heap.size oki0 v0 ((rd_T101 ss ((rd_T98 l0_1 x).f0)).f0) := hR0
                    obtain ⟨Ae, ce, rfl⟩ := Kd.R_slice hR0
                    have hx : w8.drew.cell? ⟨g, ((rd_T98 l0_1 x).f0).toNat, none⟩ = some (.slice Ae ((rd_T101 ss ((rd_T98 l0_1 x).f0)).f0).length ce) := by have := hcc0 0 _ rfl; rw [show (k101).sz = 1 from rfl, Nat.mul_one, Nat.add_zero] at this; exact this
                    have HE := Aside0.mk (Kd.R_reads' hR0)
                    have hk9 := (HB.out.cell (World.block_lt_of_cell? w _ HKC.out)).trans HKC.out
                    clear hcl0 hM0 hcc0 hoki0 hH0 hR0
                    refine start_ (n := 15) (S := fun w' => w'.cell? ⟨g, ((rd_T98 l0_1 x).f0).toNat, none⟩ = some (.slice Ae ((rd_T101 ss ((rd_T98 l0_1 x).f0)).f0).length ce) ∧ w'.cell? ⟨gb7, 1, none⟩ = some (.slice Ad ((rd_T98 l0_1 x).f1).length cd) ∧ w'.cell? (ak.add x.toNat) = some (.int .i64 (rd l1 x))) (ds := [14]) #[false, false, false, false, false, false, false, false, false, false, false, false, false, false, false] (by kernel_rfl) rfl rfl ⟨hx, (blk_cell BK7.out 1).trans rfl, hk9⟩ (fun hHeld => ?_)
                    clear hx hk9
                    generalize w8.drew = w9 at HS BK2 BK4 BK5 BK7 HB HE hHeld ⊢
                    refine pure_ (i := 0) (N := some 39) (v := ?_) (a' := ?_) #[true, false, false, false, false, false, false, false, false, false, false, false, false, false, false] rfl rfl (by kernel_rfl) (fun _ _ _ h => h) (Or.inl ⟨by rfl, ?_⟩) ?_ ?_
                    rotate_left
                    · intro w'
                      go_simp
                      with_reducible rfl
                    rotate_left
                    · simp only [Act.put, List.setIfInBounds_toArray, List.set_cons_zero, List.set_cons_succ, i64_w, i32_w]
                      rfl
                    refine pure_ (i := 1) (N := some 40) (v := ?_) (a' := ?_) #[true, true, false, false, false, false, false, false, false, false, false, false, false, false, false] rfl rfl (by kernel_rfl) (fun _ _ _ h => h) (Or.inl ⟨by rfl, ?_⟩) ?_ ?_
                    rotate_left
                    · intro w'
                      go_simp
                      with_reducible rfl
                    rotate_left
                    · simp only [Act.put, List.setIfInBounds_toArray, List.set_cons_zero, List.set_cons_succ, i64_w, i32_w]
                      rfl
                    refine pure_ (i := 2) (N := some 41) (v := ?_) (a' := ?_) #[true, true, true, false, false, false, false, false, false, false, false, false, false, false, false] rfl rfl (by kernel_rfl) (fun _ _ _ h => h) (Or.inl ⟨by rfl, ?_⟩) ?_ ?_
                    rotate_left
                    · intro w'
                      go_simp
                      with_reducible rfl
                    rotate_left
                    · simp only [Act.put, List.setIfInBounds_toArray, List.set_cons_zero, List.set_cons_succ, i64_w, i32_w]
                      rfl
                    refine pure_ (i := 3) (N := some 42) (v := ?_) (a' := ?_) #[true, true, true, true, false, false, false, false, false, false, false, false, false, false, false] rfl rfl (by kernel_rfl) (fun _ _ _ h => h) (Or.inl ⟨by rfl, ?_⟩) ?_ ?_
                    rotate_left
                    · intro w'
                      go_simp
                      with_reducible rfl
                    rotate_left
                    · simp only [Act.put, List.setIfInBounds_toArray, List.set_cons_zero, List.set_cons_succ, i64_w, i32_w]
                      rfl
                    refine pure_ (i := 5) (N := some 44) (v := ?_) (a' := ?_) #[true, true, true, true, false, true, false, false, false, false, false, false, false, false, false] rfl rfl (by kernel_rfl) (fun _ _ _ h => h) (Or.inl ⟨by rfl, ?_⟩) ?_ ?_
                    rotate_left
                    · intro w'
                      go_simp
                      with_reducible rfl
                    rotate_left
                    · simp only [Act.put, List.setIfInBounds_toArray, List.set_cons_zero, List.set_cons_succ, i64_w, i32_w]
                      rfl
                    refine pure_ (i := 7) (N := some 46) (v := ?_) (a' := ?_) #[true, true, true, true, false, true, false, true, false, false, false, false, false, false, false] rfl rfl (by kernel_rfl) (fun _ _ _ h => h) (Or.inl ⟨by rfl, ?_⟩) ?_ ?_
                    rotate_left
                    · intro w'
                      go_simp
                      with_reducible rfl
                    rotate_left
                    · simp only [Act.put, List.setIfInBounds_toArray, List.set_cons_zero, List.set_cons_succ, i64_w, i32_w]
                      rfl
                    refine pure_ (i := 8) (N := some 47) (v := ?_) (a' := ?_) #[true, true, true, true, false, true, false, true, true, false, false, false, false, false, false] rfl rfl (by kernel_rfl) (fun _ _ _ h => h) (Or.inl ⟨by rfl, ?_⟩) ?_ ?_
                    rotate_left
                    · intro w'
                      go_simp
                      with_reducible rfl
                    rotate_left
                    · simp only [Act.put, List.setIfInBounds_toArray, List.set_cons_zero, List.set_cons_succ, i64_w, i32_w]
                      rfl
                    refine pure_ (i := 9) (N := some 48) (v := ?_) (a' := ?_) #[true, true, true, true, false, true, false, true, true, true, false, false, false, false, false] rfl rfl (by kernel_rfl) (fun _ _ _ h => h) (Or.inl ⟨by rfl, ?_⟩) ?_ ?_
                    rotate_left
                    · intro w'
                      go_simp
                      with_reducible rfl
                    rotate_left
                    · simp only [Act.put, List.setIfInBounds_toArray, List.set_cons_zero, List.set_cons_succ, i64_w, i32_w]
                      rfl
                    refine take_ (i := 4) (N := some 43) (v := ?_) (a' := ?_) #[true, true, true, true, true, true, false, true, true, true, false, false, false, false, false] rfl rfl (by kernel_rfl) (fun _ _ _ h => h) (Or.inl ⟨by rfl, ?_⟩) hHeld ?_ ?_
                    rotate_left
                    · rintro w' ⟨s0, s1, s2⟩
                      go_simp
                      with_reducible rfl
                    rotate_left
                    · simp only [Act.put, List.setIfInBounds_toArray, List.set_cons_zero, List.set_cons_succ, i64_w, i32_w]
                      rfl
                    refine take_ (i := 6) (N := some 45) (v := ?_) (a' := ?_) #[true, true, true, true, true, true, true, true, true, true, false, false, false, false, false] rfl rfl (by kernel_rfl) (fun _ _ _ h => h) (Or.inl ⟨by rfl, ?_⟩) hHeld ?_ ?_
                    rotate_left
                    · rintro w' ⟨s0, s1, s2⟩
                      go_simp
                      with_reducible rfl
                    rotate_left
                    · simp only [Act.put, List.setIfInBounds_toArray, List.set_cons_zero, List.set_cons_succ, i64_w, i32_w]
                      rfl
                    refine take_ (i := 10) (N := some 49) (v := ?_) (a' := ?_) #[true, true, true, true, true, true, true, true, true, true, true, false, false, false, false] rfl rfl (by kernel_rfl) (fun _ _ _ h => h) (Or.inl ⟨by rfl, ?_⟩) hHeld ?_ ?_
                    rotate_left
                    · rintro w' ⟨s0, s1, s2⟩
                      go_simp
                      with_reducible rfl
                    rotate_left
                    · simp only [Act.put, List.setIfInBounds_toArray, List.set_cons_zero, List.set_cons_succ, i64_w, i32_w]
                      rfl
                    refine one_ (i := 11) (N := some 50) #[true, true, true, true, true, true, true, true, true, true, true, true, false, false, false] rfl rfl (by kernel_rfl) (by decide) (fun K hK => ?_)
                    refine goes_ Try.func75 (by kernel_rfl) rfl #[.slice Ae ((rd_T101 ss ((rd_T98 l0_1 x).f0)).f0).length ce, .slice Ad ((rd_T98 l0_1 x).f1).length cd, .int .i64 (rd l1 x)] (by rfl) rfl rfl (by (try simp only [List.map_toArray, List.map_cons, List.map_nil]); first | done | rfl) ?_
                    with_reducible refine (impl_Tear.calls _ _ ((rd_T101 ss ((rd_T98 l0_1 x).f0)).f0) _ _ ((rd_T98 l0_1 x).f1) (rd l1 x) t _ ?side1 ?side2 ?side3 ?side4 ET.out).mono ?_
                    (case side1 => exact HE.out.2.2)
                    (case side2 => exact HE.out.2.1)
                    (case side3 => exact Kd.C_below HRb.out HB.out)
                    (case side4 => exact HCb.out)
                    rintro e w10 ⟨vt, rfl, ho0, hb⟩
                    obtain ⟨At, ct, rfl⟩ := Kd.R_slice ho0
                    refine ⟨_, rfl, ?_⟩
                    have hs0 := (hb.cell (World.block_lt_of_cell? _ _ hHeld.1)).trans hHeld.1
                    have hs1 := (hb.cell (World.block_lt_of_cell? _ _ hHeld.2.1)).trans hHeld.2.1
                    have hs2 := (hb.cell (World.block_lt_of_cell? _ _ hHeld.2.2)).trans hHeld.2.2
                    have hn := Heap.newR HB.out ho0
                    obtain ⟨g', cap', eg', hg1', hg2', _⟩ := Kd.S_form HS.out (by have := C4.out; have := C5.out; omega)
                    injection eg' with eg1 _ _
                    injection eg1 with eg1
                    injection eg1 with eg1 _ _
                    subst eg1
                    have hsz9 := below_size HB.out
                    have hS10 := Kd.S_mono (ok' := fun k_ => w.heap.size ≤ k_ ∧ ¬ (w.heap.size ≤ k_ ∧ w9.heap.size ≤ k_)) (Kd.S_old HS.out hb) (fun k_ hk_ => ⟨hk_.1, fun h_ => by have := hk_.2; omega⟩)
                    obtain ⟨oki, cs, hcl, hM, hcc, hfr, hoki, hH⟩ := Kd.S_elem hS10 z101 ((rd_T98 l0_1 x).f0) C4.out C5.out
                    obtain ⟨v0, rfl, hR0⟩ := k101_openM hM
                    have hf0 := hfr 0
                    simp only [show (k101).sz = 1 from rfl, Nat.mul_one, Nat.add_zero] at hf0
                    have hP := Kd.S_seg hH C4.out C5.out (seg := [.slice At t.length ct]) (j := 0) (show 0 + 1 ≤ 1 from by decide) (x' := (⟨t⟩ : S101)) (k101_mkM _ _ _ (⟨t⟩ : S101) hn) (fun k_ hk_ => .inr ⟨by have := hk_.1; omega, hk_.1⟩) (fun k_ hk_ => ⟨hk_.1, by have := hk_.2; omega⟩)
                    have hP1 := hP.1
                    simp only [show (k101).sz = 1 from rfl, Nat.mul_one, Nat.add_zero] at hP1
                    have HP := Aside0.mk hP1
                    have NG2 := Aside0.mk (show gb2 ≠ g by have h_ := Kd.S_ne HS.out BK2.out (by decide); intro e_; exact h_ (by rw [e_]; rfl))
                    have n_BK2 := Aside0.mk (blk_below BK2.out hb)
                    have NG4 := Aside0.mk (show gb4 ≠ g by have h_ := Kd.S_ne HS.out BK4.out (by decide); intro e_; exact h_ (by rw [e_]; rfl))
                    have n_BK4 := Aside0.mk (blk_below BK4.out hb)
                    have NG5 := Aside0.mk (show gb5 ≠ g by have h_ := Kd.S_ne HS.out BK5.out (by decide); intro e_; exact h_ (by rw [e_]; rfl))
                    have n_BK5 := Aside0.mk (blk_below BK5.out hb)
                    have n_HB := Aside0.mk (below_step HB.out hb)
                    clear HS BK2 BK4 BK5 BK7 HB HE hb ho0 hn hg1' hg2' hS10 hcl hM hcc hfr hoki hH hR0 hP hP1 hsz9
                    have BK2 := n_BK2
                    have BK4 := n_BK4
                    have BK5 := n_BK5
                    have HB := n_HB
                    clear n_BK2 n_BK4 n_BK5 n_HB
                    refine hK.out _ _ ⟨hs0, hs1, hs2⟩ (fun hHeld => ?_)
                    clear hK K
                    refine norm_ (a' := ?_) ?_ ?_
                    rotate_left
                    · show Act.put _ (some 50) _ = _
                      simp only [Act.put, List.setIfInBounds_toArray, List.set_cons_zero, List.set_cons_succ, i64_w, i32_w]
                      rfl
                    refine pure_ (i := 12) (N := some 51) (v := ?_) (a' := ?_) #[true, true, true, true, true, true, true, true, true, true, true, true, true, false, false] rfl rfl (by kernel_rfl) (fun _ _ _ h => h) (Or.inl ⟨by rfl, ?_⟩) ?_ ?_
                    rotate_left
                    · intro w'
                      go_simp
                      with_reducible rfl
                    rotate_left
                    · simp only [Act.put, List.setIfInBounds_toArray, List.set_cons_zero, List.set_cons_succ, i64_w, i32_w]
                      rfl
                    refine pure_ (i := 13) (N := some 52) (v := ?_) (a' := ?_) #[true, true, true, true, true, true, true, true, true, true, true, true, true, true, false] rfl rfl (by kernel_rfl) (fun _ _ _ h => h) (Or.inl ⟨by rfl, ?_⟩) ?_ ?_
                    rotate_left
                    · intro w'
                      go_simp
                      with_reducible rfl
                    rotate_left
                    · simp only [Act.put, List.setIfInBounds_toArray, List.set_cons_zero, List.set_cons_succ, i64_w, i32_w]
                      rfl
                    refine last_ (i := 14) (N := none) #[true, true, true, true, true, true, true, true, true, true, true, true, true, true, true] rfl rfl (by kernel_rfl) (by decide) (fun K hK => ?_)
                    refine skip_ (w1 := ?_) (by rfl) rfl ?_ ?_
                    rotate_left
                    · go_simp
                      rfl
                    refine hK.out _ _ ?_
                    clear hK K
                    refine done_ (by kernel_rfl) ?_
                    try go_wp2
                    go_roundg k1
                    case measure => have := HK1.out; omega
                    case rel => exact ⟨wrap64 (x + 1), ss.set (((rd_T98 l0_1 x).f0)).toNat (⟨t⟩ : S101), _, (by first | rfl | (simp; done) | (simp [*]; done)), H', ⟨by have := HK1.out; omega⟩, HP, ⟨blk_far BK2.out NG2.out _⟩, ⟨blk_far BK4.out NG4.out _⟩, ⟨blk_far BK5.out NG5.out _⟩, ⟨HB.out.setCell (p := ⟨g, (((rd_T98 l0_1 x).f0)).toNat, none⟩) GG.out _⟩⟩
                  · rw [if_neg c5] at H; cases H
                · rw [if_neg c4] at H; cases H
              · rw [if_neg c3] at H
                have c3b : decide (0 < (rd l1 x)) = false := decide_eq_false c3
                clear c3
                have H' := Aside0.mk H
                clear H
                go_wp2_with (first | ((with_reducible refine gate_dst (N := 7) rfl ?_); refine box_event ?hg (N := 7) ?hd (cs := #[.int .i64 0, .slice none 0 0]) (t := 98) ?hr ?_; (case hd => rfl); (case hg => rfl); (case hr => first | (go_simp; done) | (go_simp; rfl)); intro gb7 hg w7 hbox hb; have NE2_7 := Aside0.mk (show gb2 ≠ gb7 by have := blk_lt BK2.out; omega); have NE4_7 := Aside0.mk (show gb4 ≠ gb7 by have := blk_lt BK4.out; omega); have NE5_7 := Aside0.mk (show gb5 ≠ gb7 by have := blk_lt BK5.out; omega); have GE7 := Aside0.mk (show w.heap.size ≤ gb7 by have := below_size HB.out; omega); have n_BK2 := Aside0.mk (blk_below BK2.out hb); have n_BK4 := Aside0.mk (blk_below BK4.out hb); have n_BK5 := Aside0.mk (blk_below BK5.out hb); have n_HS := Aside0.mk (Kd.S_below HS.out hb); have n_HB := Aside0.mk (below_step HB.out hb); clear BK2 BK4 BK5 HS HB; have BK2 := n_BK2; have BK4 := n_BK4; have BK5 := n_BK5; have HS := n_HS; have HB := n_HB; clear n_BK2 n_BK4 n_BK5 n_HS n_HB; have BK7 := Aside0.mk hbox; clear hb hbox hg; (try clear hz2_0); (try clear hz2_1); have hz2_0 : w7.cell? ⟨gb2, 0, none⟩ = some (.slice A0_0 l0_0.length c0_0) := (blk_cell BK2.out 0).trans rfl; have hz2_1 : w7.cell? ⟨gb2, 1, none⟩ = some (.slice (some ad) l0_1.length c0_1) := (blk_cell BK2.out 1).trans rfl; (try clear hf2_0); (try clear hf2_1); have hf2_0 := blk_frozen BK2.out 0; have hf2_1 := blk_frozen BK2.out 1; (try clear hz4_0); (try clear hz4_1); have hz4_0 : w7.cell? ⟨gb4, 0, none⟩ = some (.slice none 0 0) := (blk_cell BK4.out 0).trans rfl; have hz4_1 : w7.cell? ⟨gb4, 1, none⟩ = some (.slice none 0 0) := (blk_cell BK4.out 1).trans rfl; (try clear hf4_0); (try clear hf4_1); have hf4_0 := blk_frozen BK4.out 0; have hf4_1 := blk_frozen BK4.out 1; (try clear hz5_0); (try clear hz5_1); have hz5_0 : w7.cell? ⟨gb5, 0, none⟩ = some (u) := (blk_cell BK5.out 0).trans rfl; have hz5_1 : w7.cell? ⟨gb5, 1, none⟩ = some (.slice Av b2.length cv) := (blk_cell BK5.out 1).trans rfl; (try clear hf5_0); (try clear hf5_1); have hf5_0 := blk_frozen BK5.out 0; have hf5_1 := blk_frozen BK5.out 1; (try clear hz7_0); (try clear hz7_1); have hz7_0 : w7.cell? ⟨gb7, 0, none⟩ = some (.int .i64 0) := (blk_cell BK7.out 0).trans rfl; have hz7_1 : w7.cell? ⟨gb7, 1, none⟩ = some (.slice none 0 0) := (blk_cell BK7.out 1).trans rfl; (try clear hf7_0); (try clear hf7_1); have hf7_0 := blk_frozen BK7.out 0; have hf7_1 := blk_frozen BK7.out 1) | ((with_reducible refine gate_store (t := 98) (p := 7) rfl ?_); refine store_event (t := 98) (p := 7) (v := ?vo_w8) (w1 := ((w7.setCell ⟨gb7, 0, none⟩ (.int .i64 (rd_T98 l0_1 x).f0)).setCell ⟨gb7, 1, none⟩ (.slice Ad (rd_T98 l0_1 x).f1.length cd))) ?hg ?ho ?hn ?hr ?_; (case ho => rfl); (case hg => rfl); (case hn => rfl); (case hr => first | (go_simp; done) | (go_simp; rfl)); intro w8 hw; have hbn : w8.heap[gb7]? = some (.cells #[.int .i64 (rd_T98 l0_1 x).f0, .slice Ad (rd_T98 l0_1 x).f1.length cd] 98 (0, 0)) := (by rw [hw]; exact (blk_put (cs := #[.int .i64 (rd_T98 l0_1 x).f0, .slice none 0 0]) (blk_put (cs := #[.int .i64 0, .slice none 0 0]) BK7.out 0 (.int .i64 (rd_T98 l0_1 x).f0) rfl) 1 (.slice Ad (rd_T98 l0_1 x).f1.length cd) rfl)); have hkp : Kept w7 w8 (fun k_ => k_ = gb7) := (by rw [hw]; exact Kept.setCell (Kept.setCell (Kept.refl w7 (fun k_ => k_ = gb7)) (p := ⟨gb7, 0, none⟩) (.inl rfl) _) (p := ⟨gb7, 1, none⟩) (.inl rfl) _); have hsc : Below 0 w7 w8 := (by rw [hw]; exact ((Below.refl 0 w7).setCell (p := ⟨gb7, 0, none⟩) (Nat.zero_le _) _).setCell (p := ⟨gb7, 1, none⟩) (Nat.zero_le _) _); clear hw; have n_BK2 := Aside0.mk (blk_kept BK2.out hkp (fun hq => NE2_7.out hq)); have n_BK4 := Aside0.mk (blk_kept BK4.out hkp (fun hq => NE4_7.out hq)); have n_BK5 := Aside0.mk (blk_kept BK5.out hkp (fun hq => NE5_7.out hq)); have n_HS := Aside0.mk (Kd.S_mono (Kd.S_kept (Kd.S_types HS.out BK7.out (by decide)) hkp (fun k hk hq => hk.2 hq)) (fun k hk => hk.1)); have n_HB := Aside0.mk (Heap.below_kept HB.out hsc hkp (fun k hq => by have := GE7.out; omega)); clear BK7 BK2 BK4 BK5 HS HB; have BK2 := n_BK2; have BK4 := n_BK4; have BK5 := n_BK5; have HS := n_HS; have HB := n_HB; have BK7 := Aside0.mk hbn; clear hbn hkp hsc n_BK2 n_BK4 n_BK5 n_HS n_HB; (try clear hz2_0); (try clear hz2_1); have hz2_0 : w8.cell? ⟨gb2, 0, none⟩ = some (.slice A0_0 l0_0.length c0_0) := (blk_cell BK2.out 0).trans rfl; have hz2_1 : w8.cell? ⟨gb2, 1, none⟩ = some (.slice (some ad) l0_1.length c0_1) := (blk_cell BK2.out 1).trans rfl; (try clear hf2_0); (try clear hf2_1); have hf2_0 := blk_frozen BK2.out 0; have hf2_1 := blk_frozen BK2.out 1; (try clear hz4_0); (try clear hz4_1); have hz4_0 : w8.cell? ⟨gb4, 0, none⟩ = some (.slice none 0 0) := (blk_cell BK4.out 0).trans rfl; have hz4_1 : w8.cell? ⟨gb4, 1, none⟩ = some (.slice none 0 0) := (blk_cell BK4.out 1).trans rfl; (try clear hf4_0); (try clear hf4_1); have hf4_0 := blk_frozen BK4.out 0; have hf4_1 := blk_frozen BK4.out 1; (try clear hz5_0); (try clear hz5_1); have hz5_0 : w8.cell? ⟨gb5, 0, none⟩ = some (u) := (blk_cell BK5.out 0).trans rfl; have hz5_1 : w8.cell? ⟨gb5, 1, none⟩ = some (.slice Av b2.length cv) := (blk_cell BK5.out 1).trans rfl; (try clear hf5_0); (try clear hf5_1); have hf5_0 := blk_frozen BK5.out 0; have hf5_1 := blk_frozen BK5.out 1; (try clear hz7_0); (try clear hz7_1); have hz7_0 : w8.cell? ⟨gb7, 0, none⟩ = some (.int .i64 (rd_T98 l0_1 x).f0) := (blk_cell BK7.out 0).trans rfl; have hz7_1 : w8.cell? ⟨gb7, 1, none⟩ = some (.slice Ad (rd_T98 l0_1 x).f1.length cd) := (blk_cell BK7.out 1).trans rfl; (try clear hf7_0); (try clear hf7_1); have hf7_0 := blk_frozen BK7.out 0; have hf7_1 := blk_frozen BK7.out 1; have hk8 := (HB.out.cell (World.block_lt_of_cell? w _ HKC.out)).trans HKC.out))
                go_roundg k1
                case measure => have := HK1.out; omega
                case rel => exact ⟨wrap64 (x + 1), ss, u, (by first | rfl | (simp; done) | (simp [*]; done)), H', ⟨by have := HK1.out; omega⟩, HS, BK2, BK4, BK5, HB⟩
            · rw [if_neg c2] at H
              have c2b : decide (x < (l1.length : Int)) = false := decide_eq_false c2
              clear c2
              have H' := Aside0.mk H
              clear H
              go_wp2_with (first | ((with_reducible refine gate_dst (N := 7) rfl ?_); refine box_event ?hg (N := 7) ?hd (cs := #[.int .i64 0, .slice none 0 0]) (t := 98) ?hr ?_; (case hd => rfl); (case hg => rfl); (case hr => first | (go_simp; done) | (go_simp; rfl)); intro gb7 hg w7 hbox hb; have NE2_7 := Aside0.mk (show gb2 ≠ gb7 by have := blk_lt BK2.out; omega); have NE4_7 := Aside0.mk (show gb4 ≠ gb7 by have := blk_lt BK4.out; omega); have NE5_7 := Aside0.mk (show gb5 ≠ gb7 by have := blk_lt BK5.out; omega); have GE7 := Aside0.mk (show w.heap.size ≤ gb7 by have := below_size HB.out; omega); have n_BK2 := Aside0.mk (blk_below BK2.out hb); have n_BK4 := Aside0.mk (blk_below BK4.out hb); have n_BK5 := Aside0.mk (blk_below BK5.out hb); have n_HS := Aside0.mk (Kd.S_below HS.out hb); have n_HB := Aside0.mk (below_step HB.out hb); clear BK2 BK4 BK5 HS HB; have BK2 := n_BK2; have BK4 := n_BK4; have BK5 := n_BK5; have HS := n_HS; have HB := n_HB; clear n_BK2 n_BK4 n_BK5 n_HS n_HB; have BK7 := Aside0.mk hbox; clear hb hbox hg; (try clear hz2_0); (try clear hz2_1); have hz2_0 : w7.cell? ⟨gb2, 0, none⟩ = some (.slice A0_0 l0_0.length c0_0) := (blk_cell BK2.out 0).trans rfl; have hz2_1 : w7.cell? ⟨gb2, 1, none⟩ = some (.slice (some ad) l0_1.length c0_1) := (blk_cell BK2.out 1).trans rfl; (try clear hf2_0); (try clear hf2_1); have hf2_0 := blk_frozen BK2.out 0; have hf2_1 := blk_frozen BK2.out 1; (try clear hz4_0); (try clear hz4_1); have hz4_0 : w7.cell? ⟨gb4, 0, none⟩ = some (.slice none 0 0) := (blk_cell BK4.out 0).trans rfl; have hz4_1 : w7.cell? ⟨gb4, 1, none⟩ = some (.slice none 0 0) := (blk_cell BK4.out 1).trans rfl; (try clear hf4_0); (try clear hf4_1); have hf4_0 := blk_frozen BK4.out 0; have hf4_1 := blk_frozen BK4.out 1; (try clear hz5_0); (try clear hz5_1); have hz5_0 : w7.cell? ⟨gb5, 0, none⟩ = some (u) := (blk_cell BK5.out 0).trans rfl; have hz5_1 : w7.cell? ⟨gb5, 1, none⟩ = some (.slice Av b2.length cv) := (blk_cell BK5.out 1).trans rfl; (try clear hf5_0); (try clear hf5_1); have hf5_0 := blk_frozen BK5.out 0; have hf5_1 := blk_frozen BK5.out 1; (try clear hz7_0); (try clear hz7_1); have hz7_0 : w7.cell? ⟨gb7, 0, none⟩ = some (.int .i64 0) := (blk_cell BK7.out 0).trans rfl; have hz7_1 : w7.cell? ⟨gb7, 1, none⟩ = some (.slice none 0 0) := (blk_cell BK7.out 1).trans rfl; (try clear hf7_0); (try clear hf7_1); have hf7_0 := blk_frozen BK7.out 0; have hf7_1 := blk_frozen BK7.out 1) | ((with_reducible refine gate_store (t := 98) (p := 7) rfl ?_); refine store_event (t := 98) (p := 7) (v := ?vo_w8) (w1 := ((w7.setCell ⟨gb7, 0, none⟩ (.int .i64 (rd_T98 l0_1 x).f0)).setCell ⟨gb7, 1, none⟩ (.slice Ad (rd_T98 l0_1 x).f1.length cd))) ?hg ?ho ?hn ?hr ?_; (case ho => rfl); (case hg => rfl); (case hn => rfl); (case hr => first | (go_simp; done) | (go_simp; rfl)); intro w8 hw; have hbn : w8.heap[gb7]? = some (.cells #[.int .i64 (rd_T98 l0_1 x).f0, .slice Ad (rd_T98 l0_1 x).f1.length cd] 98 (0, 0)) := (by rw [hw]; exact (blk_put (cs := #[.int .i64 (rd_T98 l0_1 x).f0, .slice none 0 0]) (blk_put (cs := #[.int .i64 0, .slice none 0 0]) BK7.out 0 (.int .i64 (rd_T98 l0_1 x).f0) rfl) 1 (.slice Ad (rd_T98 l0_1 x).f1.length cd) rfl)); have hkp : Kept w7 w8 (fun k_ => k_ = gb7) := (by rw [hw]; exact Kept.setCell (Kept.setCell (Kept.refl w7 (fun k_ => k_ = gb7)) (p := ⟨gb7, 0, none⟩) (.inl rfl) _) (p := ⟨gb7, 1, none⟩) (.inl rfl) _); have hsc : Below 0 w7 w8 := (by rw [hw]; exact ((Below.refl 0 w7).setCell (p := ⟨gb7, 0, none⟩) (Nat.zero_le _) _).setCell (p := ⟨gb7, 1, none⟩) (Nat.zero_le _) _); clear hw; have n_BK2 := Aside0.mk (blk_kept BK2.out hkp (fun hq => NE2_7.out hq)); have n_BK4 := Aside0.mk (blk_kept BK4.out hkp (fun hq => NE4_7.out hq)); have n_BK5 := Aside0.mk (blk_kept BK5.out hkp (fun hq => NE5_7.out hq)); have n_HS := Aside0.mk (Kd.S_mono (Kd.S_kept (Kd.S_types HS.out BK7.out (by decide)) hkp (fun k hk hq => hk.2 hq)) (fun k hk => hk.1)); have n_HB := Aside0.mk (Heap.below_kept HB.out hsc hkp (fun k hq => by have := GE7.out; omega)); clear BK7 BK2 BK4 BK5 HS HB; have BK2 := n_BK2; have BK4 := n_BK4; have BK5 := n_BK5; have HS := n_HS; have HB := n_HB; have BK7 := Aside0.mk hbn; clear hbn hkp hsc n_BK2 n_BK4 n_BK5 n_HS n_HB; (try clear hz2_0); (try clear hz2_1); have hz2_0 : w8.cell? ⟨gb2, 0, none⟩ = some (.slice A0_0 l0_0.length c0_0) := (blk_cell BK2.out 0).trans rfl; have hz2_1 : w8.cell? ⟨gb2, 1, none⟩ = some (.slice (some ad) l0_1.length c0_1) := (blk_cell BK2.out 1).trans rfl; (try clear hf2_0); (try clear hf2_1); have hf2_0 := blk_frozen BK2.out 0; have hf2_1 := blk_frozen BK2.out 1; (try clear hz4_0); (try clear hz4_1); have hz4_0 : w8.cell? ⟨gb4, 0, none⟩ = some (.slice none 0 0) := (blk_cell BK4.out 0).trans rfl; have hz4_1 : w8.cell? ⟨gb4, 1, none⟩ = some (.slice none 0 0) := (blk_cell BK4.out 1).trans rfl; (try clear hf4_0); (try clear hf4_1); have hf4_0 := blk_frozen BK4.out 0; have hf4_1 := blk_frozen BK4.out 1; (try clear hz5_0); (try clear hz5_1); have hz5_0 : w8.cell? ⟨gb5, 0, none⟩ = some (u) := (blk_cell BK5.out 0).trans rfl; have hz5_1 : w8.cell? ⟨gb5, 1, none⟩ = some (.slice Av b2.length cv) := (blk_cell BK5.out 1).trans rfl; (try clear hf5_0); (try clear hf5_1); have hf5_0 := blk_frozen BK5.out 0; have hf5_1 := blk_frozen BK5.out 1; (try clear hz7_0); (try clear hz7_1); have hz7_0 : w8.cell? ⟨gb7, 0, none⟩ = some (.int .i64 (rd_T98 l0_1 x).f0) := (blk_cell BK7.out 0).trans rfl; have hz7_1 : w8.cell? ⟨gb7, 1, none⟩ = some (.slice Ad (rd_T98 l0_1 x).f1.length cd) := (blk_cell BK7.out 1).trans rfl; (try clear hf7_0); (try clear hf7_1); have hf7_0 := blk_frozen BK7.out 0; have hf7_1 := blk_frozen BK7.out 1))
              go_roundg k1
              case measure => have := HK1.out; omega
              case rel => exact ⟨wrap64 (x + 1), ss, u, (by first | rfl | (simp; done) | (simp [*]; done)), H', ⟨by have := HK1.out; omega⟩, HS, BK2, BK4, BK5, HB⟩
          · rw [if_neg c0] at H; cases H
        · rw [if_neg c1] at H
          have c1b : decide (x < (l0_1.length : Int)) = false := decide_eq_false c1
          clear c1
          obtain rfl := Option.some.inj H
          obtain ⟨Ao, co, rfl⟩ := Kd.S_slice HS.out
          (try clear hz2_0)
          (try clear hz2_1)
          have hz2_0 : wr.cell? ⟨gb2, 0, none⟩ = some (.slice A0_0 l0_0.length c0_0) := (blk_cell BK2.out 0).trans rfl
          have hz2_1 : wr.cell? ⟨gb2, 1, none⟩ = some (.slice A0_1 l0_1.length c0_1) := (blk_cell BK2.out 1).trans rfl
          (try clear hf2_0)
          (try clear hf2_1)
          have hf2_0 := blk_frozen BK2.out 0
          have hf2_1 := blk_frozen BK2.out 1
          (try clear hz4_0)
          (try clear hz4_1)
          have hz4_0 : wr.cell? ⟨gb4, 0, none⟩ = some (.slice none 0 0) := (blk_cell BK4.out 0).trans rfl
          have hz4_1 : wr.cell? ⟨gb4, 1, none⟩ = some (.slice none 0 0) := (blk_cell BK4.out 1).trans rfl
          (try clear hf4_0)
          (try clear hf4_1)
          have hf4_0 := blk_frozen BK4.out 0
          have hf4_1 := blk_frozen BK4.out 1
          (try clear hz5_0)
          (try clear hz5_1)
          have hz5_0 : wr.cell? ⟨gb5, 0, none⟩ = some (.slice Ao ss.length co) := (blk_cell BK5.out 0).trans rfl
          have hz5_1 : wr.cell? ⟨gb5, 1, none⟩ = some (.slice Av b2.length cv) := (blk_cell BK5.out 1).trans rfl
          (try clear hf5_0)
          (try clear hf5_1)
          have hf5_0 := blk_frozen BK5.out 0
          have hf5_1 := blk_frozen BK5.out 1
          go_wp2_with (first | ((with_reducible refine gate_store (t := 28) (p := 54) rfl ?_); refine store_event (t := 28) (p := 54) (v := ?vo_w10) (w1 := (wr.setCell ⟨gb5, 1, none⟩ (.slice none 0 0))) ?hg ?ho ?hn ?hr ?_; (case ho => rfl); (case hg => rfl); (case hn => rfl); (case hr => first | (go_simp; done) | (go_simp; rfl)); intro w10 hw; have hbn : w10.heap[gb5]? = some (.cells #[.slice Ao ss.length co, .slice none 0 0] 30 (0, 0)) := (by rw [hw]; exact (blk_put (cs := #[.slice Ao ss.length co, .slice Av b2.length cv]) BK5.out 1 (.slice none 0 0) rfl)); have hkp : Kept wr w10 (fun k_ => k_ = gb5) := (by rw [hw]; exact Kept.setCell (Kept.refl wr (fun k_ => k_ = gb5)) (p := ⟨gb5, 1, none⟩) (.inl rfl) _); have hsc : Below 0 wr w10 := (by rw [hw]; exact (Below.refl 0 wr).setCell (p := ⟨gb5, 1, none⟩) (Nat.zero_le _) _); clear hw; have n_BK2 := Aside0.mk (blk_kept BK2.out hkp (fun hq => NE2_5.out hq)); have n_BK4 := Aside0.mk (blk_kept BK4.out hkp (fun hq => NE4_5.out hq)); have n_HS := Aside0.mk (Kd.S_mono (Kd.S_kept (Kd.S_types HS.out BK5.out (by decide)) hkp (fun k hk hq => hk.2 hq)) (fun k hk => hk.1)); have n_HB := Aside0.mk (Heap.below_kept HB.out hsc hkp (fun k hq => by have := GE5.out; omega)); clear BK5 BK2 BK4 HS HB; have BK2 := n_BK2; have BK4 := n_BK4; have HS := n_HS; have HB := n_HB; have BK5 := Aside0.mk hbn; clear hbn hkp hsc n_BK2 n_BK4 n_HS n_HB; (try clear hz4_0); (try clear hz4_1); have hz4_0 : w10.cell? ⟨gb4, 0, none⟩ = some (.slice none 0 0) := (blk_cell BK4.out 0).trans rfl; have hz4_1 : w10.cell? ⟨gb4, 1, none⟩ = some (.slice none 0 0) := (blk_cell BK4.out 1).trans rfl; (try clear hf4_0); (try clear hf4_1); have hf4_0 := blk_frozen BK4.out 0; have hf4_1 := blk_frozen BK4.out 1; (try clear hz5_0); (try clear hz5_1); have hz5_0 : w10.cell? ⟨gb5, 0, none⟩ = some (.slice Ao ss.length co) := (blk_cell BK5.out 0).trans rfl; have hz5_1 : w10.cell? ⟨gb5, 1, none⟩ = some (.slice none 0 0) := (blk_cell BK5.out 1).trans rfl; (try clear hf5_0); (try clear hf5_1); have hf5_0 := blk_frozen BK5.out 0; have hf5_1 := blk_frozen BK5.out 1) | ((with_reducible refine gate_store (t := 30) (p := 4) rfl ?_); refine store_event (t := 30) (p := 4) (v := ?vo_w11) (w1 := ((w10.setCell ⟨gb4, 0, none⟩ (.slice Ao ss.length co)).setCell ⟨gb4, 1, none⟩ (.slice none 0 0))) ?hg ?ho ?hn ?hr ?_; (case ho => rfl); (case hg => rfl); (case hn => rfl); (case hr => first | (go_simp; done) | (go_simp; rfl)); intro w11 hw; have hbn : w11.heap[gb4]? = some (.cells #[.slice Ao ss.length co, .slice none 0 0] 30 (0, 0)) := (by rw [hw]; exact (blk_put (cs := #[.slice Ao ss.length co, .slice none 0 0]) (blk_put (cs := #[.slice none 0 0, .slice none 0 0]) BK4.out 0 (.slice Ao ss.length co) rfl) 1 (.slice none 0 0) rfl)); have hkp : Kept w10 w11 (fun k_ => k_ = gb4) := (by rw [hw]; exact Kept.setCell (Kept.setCell (Kept.refl w10 (fun k_ => k_ = gb4)) (p := ⟨gb4, 0, none⟩) (.inl rfl) _) (p := ⟨gb4, 1, none⟩) (.inl rfl) _); have hsc : Below 0 w10 w11 := (by rw [hw]; exact ((Below.refl 0 w10).setCell (p := ⟨gb4, 0, none⟩) (Nat.zero_le _) _).setCell (p := ⟨gb4, 1, none⟩) (Nat.zero_le _) _); clear hw; have n_BK2 := Aside0.mk (blk_kept BK2.out hkp (fun hq => NE2_4.out hq)); have n_BK5 := Aside0.mk (blk_kept BK5.out hkp (fun hq => NE4_5.out hq.symm)); have n_HS := Aside0.mk (Kd.S_mono (Kd.S_kept (Kd.S_types HS.out BK4.out (by decide)) hkp (fun k hk hq => hk.2 hq)) (fun k hk => hk.1)); have n_HB := Aside0.mk (Heap.below_kept HB.out hsc hkp (fun k hq => by have := GE4.out; omega)); clear BK4 BK2 BK5 HS HB; have BK2 := n_BK2; have BK5 := n_BK5; have HS := n_HS; have HB := n_HB; have BK4 := Aside0.mk hbn; clear hbn hkp hsc n_BK2 n_BK5 n_HS n_HB; (try clear hz4_0); (try clear hz4_1); have hz4_0 : w11.cell? ⟨gb4, 0, none⟩ = some (.slice Ao ss.length co) := (blk_cell BK4.out 0).trans rfl; have hz4_1 : w11.cell? ⟨gb4, 1, none⟩ = some (.slice none 0 0) := (blk_cell BK4.out 1).trans rfl; (try clear hf4_0); (try clear hf4_1); have hf4_0 := blk_frozen BK4.out 0; have hf4_1 := blk_frozen BK4.out 1))
          refine bodyPost_ret (results_cell_row rfl _ _ gb4 30 #[.slice Ao ss.length co, .slice none 0 0] (0, 0) _ rfl BK4.out Try.underlying30 rfl (by kernel_rfl)) rfl ?_
          exact ⟨_, _, rfl, Kd.S_mono HS.out (fun _ _ => trivial), Kd.S_nil _ _ _ _ _, HB.out⟩
  · rw [if_neg ct] at h
    simp only [Option.some.injEq, Prod.mk.injEq] at h
    obtain ⟨rfl, rfl⟩ := h
    obtain rfl : t0 = false := by cases t0 <;> simp_all
    go_enter Try.func22, Try.ntmps22
    go_wp2_with (first | ((with_reducible refine gate_dst (N := 2) rfl ?_); refine box_event ?hg (N := 2) ?hd (cs := #[.slice A0_0 l0_0.length c0_0, .slice A0_1 l0_1.length c0_1]) (t := 30) ?hr ?_; (case hd => rfl); (case hg => rfl); (case hr => first | (go_simp; done) | (go_simp; rfl)); intro gb2 hg w1 hbox hb; have GE2 := Aside0.mk (show w.heap.size ≤ gb2 by have := below_size HB.out; omega); have n_HB := Aside0.mk (below_step HB.out hb); clear HB; have HB := n_HB; clear n_HB; have BK2 := Aside0.mk hbox; clear hb hbox hg; (try clear hz2_0); (try clear hz2_1); have hz2_0 : w1.cell? ⟨gb2, 0, none⟩ = some (.slice A0_0 l0_0.length c0_0) := (blk_cell BK2.out 0).trans rfl; have hz2_1 : w1.cell? ⟨gb2, 1, none⟩ = some (.slice A0_1 l0_1.length c0_1) := (blk_cell BK2.out 1).trans rfl; (try clear hf2_0); (try clear hf2_1); have hf2_0 := blk_frozen BK2.out 0; have hf2_1 := blk_frozen BK2.out 1) | ((with_reducible refine gate_dst (N := 4) rfl ?_); refine box_event ?hg (N := 4) ?hd (cs := #[.slice none 0 0, .slice none 0 0]) (t := 30) ?hr ?_; (case hd => rfl); (case hg => rfl); (case hr => first | (go_simp; done) | (go_simp; rfl)); intro gb4 hg w2 hbox hb; have NE2_4 := Aside0.mk (show gb2 ≠ gb4 by have := blk_lt BK2.out; omega); have GE4 := Aside0.mk (show w.heap.size ≤ gb4 by have := below_size HB.out; omega); have n_BK2 := Aside0.mk (blk_below BK2.out hb); have n_HB := Aside0.mk (below_step HB.out hb); clear BK2 HB; have BK2 := n_BK2; have HB := n_HB; clear n_BK2 n_HB; have BK4 := Aside0.mk hbox; clear hb hbox hg; (try clear hz2_0); (try clear hz2_1); have hz2_0 : w2.cell? ⟨gb2, 0, none⟩ = some (.slice A0_0 l0_0.length c0_0) := (blk_cell BK2.out 0).trans rfl; have hz2_1 : w2.cell? ⟨gb2, 1, none⟩ = some (.slice A0_1 l0_1.length c0_1) := (blk_cell BK2.out 1).trans rfl; (try clear hf2_0); (try clear hf2_1); have hf2_0 := blk_frozen BK2.out 0; have hf2_1 := blk_frozen BK2.out 1; (try clear hz4_0); (try clear hz4_1); have hz4_0 : w2.cell? ⟨gb4, 0, none⟩ = some (.slice none 0 0) := (blk_cell BK4.out 0).trans rfl; have hz4_1 : w2.cell? ⟨gb4, 1, none⟩ = some (.slice none 0 0) := (blk_cell BK4.out 1).trans rfl; (try clear hf4_0); (try clear hf4_1); have hf4_0 := blk_frozen BK4.out 0; have hf4_1 := blk_frozen BK4.out 1) | ((with_reducible refine gate_callee (f := 60) rfl ?_); refine goesL_ (some 10) rfl rfl Try.func60 (by kernel_rfl) rfl #[.agg #[.slice A0_0 l0_0.length c0_0, .slice A0_1 l0_1.length c0_1]] rfl (by (try simp only [List.map_toArray, List.map_cons, List.map_nil]); first | done | rfl) ?_; (with_reducible refine (impl_DiskOk.calls k _ _ l0_0 _ _ l0_1 _ _ ?side1 ?side2 ?side3 ?side4 E0.out).mono ?_); (case side1 => exact Kd.C_below HR0_0.out HB.out); (case side2 => exact HC0_0.out); (case side3 => exact Kd.C_below HR0_1.out HB.out); (case side4 => exact HC0_1.out); rintro e w3 ⟨rfl, hb⟩; refine ⟨_, rfl, ?_⟩; have n_BK2 := Aside0.mk (blk_below BK2.out hb); have n_BK4 := Aside0.mk (blk_below BK4.out hb); have n_HB := Aside0.mk (below_step HB.out hb); clear BK2 BK4 HB; have BK2 := n_BK2; have BK4 := n_BK4; have HB := n_HB; clear n_BK2 n_BK4 n_HB; clear hb; (try clear hz2_0); (try clear hz2_1); have hz2_0 : w3.cell? ⟨gb2, 0, none⟩ = some (.slice A0_0 l0_0.length c0_0) := (blk_cell BK2.out 0).trans rfl; have hz2_1 : w3.cell? ⟨gb2, 1, none⟩ = some (.slice A0_1 l0_1.length c0_1) := (blk_cell BK2.out 1).trans rfl; (try clear hf2_0); (try clear hf2_1); have hf2_0 := blk_frozen BK2.out 0; have hf2_1 := blk_frozen BK2.out 1; (try clear hz4_0); (try clear hz4_1); have hz4_0 : w3.cell? ⟨gb4, 0, none⟩ = some (.slice none 0 0) := (blk_cell BK4.out 0).trans rfl; have hz4_1 : w3.cell? ⟨gb4, 1, none⟩ = some (.slice none 0 0) := (blk_cell BK4.out 1).trans rfl; (try clear hf4_0); (try clear hf4_1); have hf4_0 := blk_frozen BK4.out 0; have hf4_1 := blk_frozen BK4.out 1) | ((with_reducible refine gate_store (t := 30) (p := 4) rfl ?_); refine store_event (t := 30) (p := 4) (v := ?vo_w4) (w1 := ((w3.setCell ⟨gb4, 0, none⟩ (.slice none 0 0)).setCell ⟨gb4, 1, none⟩ (.slice none 0 0))) ?hg ?ho ?hn ?hr ?_; (case ho => rfl); (case hg => rfl); (case hn => rfl); (case hr => first | (go_simp; done) | (go_simp; rfl)); intro w4 hw; have hbn : w4.heap[gb4]? = some (.cells #[.slice none 0 0, .slice none 0 0] 30 (0, 0)) := (by rw [hw]; exact (blk_put (cs := #[.slice none 0 0, .slice none 0 0]) (blk_put (cs := #[.slice none 0 0, .slice none 0 0]) BK4.out 0 (.slice none 0 0) rfl) 1 (.slice none 0 0) rfl)); have hkp : Kept w3 w4 (fun k_ => k_ = gb4) := (by rw [hw]; exact Kept.setCell (Kept.setCell (Kept.refl w3 (fun k_ => k_ = gb4)) (p := ⟨gb4, 0, none⟩) (.inl rfl) _) (p := ⟨gb4, 1, none⟩) (.inl rfl) _); have hsc : Below 0 w3 w4 := (by rw [hw]; exact ((Below.refl 0 w3).setCell (p := ⟨gb4, 0, none⟩) (Nat.zero_le _) _).setCell (p := ⟨gb4, 1, none⟩) (Nat.zero_le _) _); clear hw; have n_BK2 := Aside0.mk (blk_kept BK2.out hkp (fun hq => NE2_4.out hq)); have n_HB := Aside0.mk (Heap.below_kept HB.out hsc hkp (fun k hq => by have := GE4.out; omega)); clear BK4 BK2 HB; have BK2 := n_BK2; have HB := n_HB; have BK4 := Aside0.mk hbn; clear hbn hkp hsc n_BK2 n_HB; (try clear hz4_0); (try clear hz4_1); have hz4_0 : w4.cell? ⟨gb4, 0, none⟩ = some (.slice none 0 0) := (blk_cell BK4.out 0).trans rfl; have hz4_1 : w4.cell? ⟨gb4, 1, none⟩ = some (.slice none 0 0) := (blk_cell BK4.out 1).trans rfl; (try clear hf4_0); (try clear hf4_1); have hf4_0 := blk_frozen BK4.out 0; have hf4_1 := blk_frozen BK4.out 1))
    refine bodyPost_ret (results_cell_row rfl _ _ gb4 30 #[.slice none 0 0, .slice none 0 0] (0, 0) _ rfl BK4.out Try.underlying30 rfl (by kernel_rfl)) rfl ?_
    exact ⟨_, _, rfl, Kd.S_nil _ _ _ _ _, Kd.S_nil _ _ _ _ _, HB.out⟩

/-! ### laws_eqIntS: function 23 -/
def laws_eqIntS.l0 : Nat → List Int → List Int → Int → Option (Bool)
  | 0, _, _, _ => none
  | k + 1, x0, x1, x5 => if x5 < (x0.length : Int) then (if 0 ≤ x5 then (if x5 < (x1.length : Int) then (if (rd x0 x5) = (rd x1 x5) then (laws_eqIntS.l0 k x0 x1 (wrap64 (x5 + 1))) else (some false)) else (none)) else (none)) else (some true)
def laws_eqIntS.f (k : Nat) (l0 : List Int) (l1 : List Int) : Option (Bool) := if (l0.length : Int) = (l1.length : Int) then (laws_eqIntS.l0 k l0 l1 0) else (some false)
theorem laws_eqIntS.mono_l : ∀ k, (∀ y0 y1 y2, LeO (laws_eqIntS.l0 k y0 y1 y2) (laws_eqIntS.l0 (k + 1) y0 y1 y2))
  | 0 => fun _ _ _ r h => by simp [laws_eqIntS.l0] at h
  | k + 1 => by
    have ih0 := laws_eqIntS.mono_l k
    · intro y0 y1 y2
      unfold laws_eqIntS.l0
      repeat' first
      | (with_reducible exact ih0 _ _ _)
      | (with_reducible exact LeO.refl _)
      | (with_reducible exact LeO.none _)
      | (with_reducible refine LeO.ite ?_ ?_)
      | (with_reducible refine LeO.bind ?_ (fun _ => ?_))
      | exact ih0 _ _ _
      | exact LeO.none _
      | refine LeO.ite ?_ ?_
      | refine LeO.bind ?_ (fun _ => ?_)
theorem laws_eqIntS.mono : ∀ a0 a1 k, LeO (laws_eqIntS.f k a0 a1) (laws_eqIntS.f (k + 1) a0 a1) := by
  intro a0 a1 k
  have ih0 := laws_eqIntS.mono_l k
  unfold laws_eqIntS.f
  repeat' first
      | (with_reducible exact ih0 _ _ _)
      | (with_reducible exact LeO.refl _)
      | (with_reducible exact LeO.none _)
      | (with_reducible refine LeO.ite ?_ ?_)
      | (with_reducible refine LeO.bind ?_ (fun _ => ?_))
      | exact ih0 _ _ _
      | exact LeO.none _
      | refine LeO.ite ?_ ?_
      | refine LeO.bind ?_ (fun _ => ?_)
set_option maxHeartbeats 8000000 in
set_option maxRecDepth 100000 in
theorem laws_eqIntS.calls (k : Nat) (A0 : Option Addr) (c0 : Nat) (l0 : List Int) (A1 : Option Addr) (c1 : Nat) (l1 : List Int) (r : Bool) (w : World) (hr0 : Kd.C (Kd.int .i64) w A0 l0.length l0) (hc0 : l0.length ≤ c0) (hr1 : Kd.C (Kd.int .i64) w A1 l1.length l1) (hc1 : l1.length ≤ c1) (h : laws_eqIntS.f k l0 l1 = some r) :
    Calls Try.prog 23 #[.slice A0 l0.length c0, .slice A1 l1.length c1] w fun e w' => e = .returned (.bool r) ∧ Drawn0 w w' := by
  have HR0 := Aside0.mk hr0
  have HC0 := Aside0.mk hc0
  clear hr0 hc0
  have HR1 := Aside0.mk hr1
  have HC1 := Aside0.mk hc1
  clear hr1 hc1
  have H : (if (l0.length : Int) = (l1.length : Int) then (laws_eqIntS.l0 k l0 l1 0) else (some false)) = some r := h
  clear h
  by_cases c3 : (l0.length : Int) = (l1.length : Int)
  · rw [if_pos c3] at H
    have c3b0 : ((l0.length : Int) == (l1.length : Int)) = true := beq_iff_eq.mpr c3
    have c3b1 : ((l0.length : Int) != (l1.length : Int)) = false := bne_eq_false_iff_eq.mpr c3
    have c3b2 : (l0.length == l1.length) = true := by first | simpa using c3 | (simp at c3 ⊢; omega)
    clear c3
    have H' := Aside0.mk H
    clear H
    go_enter Try.func23, Try.ntmps23
    go_wp2
    repeat (go_quiet (fail); try go_wp2)
    go_loopg [5] k (fun kq v5 w' => ∃ (x5_1 : Int), v5 = .int .i64 x5_1 ∧ Aside0 (laws_eqIntS.l0 kq l0 l1 x5_1 = some r) ∧ Aside0 (kq ≤ k) ∧ Drawn0 w w')
    case atStart => exact ⟨(0), (by first | rfl | (simp; done) | (simp [*]; done)), H', ⟨Nat.le_refl _⟩, by repeat (first | exact Drawn0.refl _ | apply Drawn0.step)⟩
    case round =>
      clear H'
      try clear c1
      try clear c2
      try clear p2
      try clear c3
      try clear c3b0
      try clear c3b1
      try clear c3b2
      obtain ⟨x5_1, rfl, HA, HK1, ⟨m1, rfl⟩⟩ := hrel
      cases gk with
      | zero => exact absurd HA.out (by simp [laws_eqIntS.l0])
      | succ k1 =>
        have H := HA.out
        clear HA
        simp only [laws_eqIntS.l0] at H
        by_cases c4 : x5_1 < (l0.length : Int)
        · rw [if_pos c4] at H
          have c4b0 : decide (x5_1 < (l0.length : Int)) = true := decide_eq_true c4
          clear c4
          by_cases c5 : 0 ≤ x5_1
          · rw [if_pos c5] at H
            have c5b0 : decide (0 ≤ x5_1) = true := decide_eq_true c5
            clear c5
            by_cases c6 : x5_1 < (l1.length : Int)
            · rw [if_pos c6] at H
              have c6b0 : decide (x5_1 < (l1.length : Int)) = true := decide_eq_true c6
              clear c6
              by_cases c7 : (rd l0 x5_1) = (rd l1 x5_1)
              · rw [if_pos c7] at H
                have c7b0 : ((rd l0 x5_1) == (rd l1 x5_1)) = true := beq_iff_eq.mpr c7
                have c7b1 : ((rd l0 x5_1) != (rd l1 x5_1)) = false := bne_eq_false_iff_eq.mpr c7
                clear c7
                have H' := Aside0.mk H
                clear H
                have p355 : 0 ≤ (x5_1 : Int) := of_decide_eq_true (by first | (with_reducible assumption) | assumption)
                have q355 : x5_1 < (l0.length : Int) := of_decide_eq_true (by first | (with_reducible assumption) | assumption)
                obtain ⟨ad355, e355, hx355_0⟩ := Kd.at_int HR0.out x5_1 p355 q355
                cases e355
                replace p355 := eq_true p355
                replace q355 := eq_true q355
                have p356 : 0 ≤ (x5_1 : Int) := of_decide_eq_true (by first | (with_reducible assumption) | assumption)
                have q356 : x5_1 < (l1.length : Int) := of_decide_eq_true (by first | (with_reducible assumption) | assumption)
                obtain ⟨ad356, e356, hx356_0⟩ := Kd.at_int HR1.out x5_1 p356 q356
                cases e356
                replace p356 := eq_true p356
                replace q356 := eq_true q356
                go_wp2
                repeat (go_quiet (fail); try go_wp2)
                go_roundg k1
                case measure => have := HK1.out; omega
                case rel => exact ⟨(wrap64 (x5_1 + 1)), (by first | rfl | (simp; done) | (simp [*]; done)), H', ⟨by have := HK1.out; omega⟩, by repeat (first | exact Drawn0.refl _ | apply Drawn0.step)⟩
              · rw [if_neg c7] at H
                have c7b0 : ((rd l0 x5_1) == (rd l1 x5_1)) = false := beq_eq_false_iff_ne.mpr c7
                have c7b1 : ((rd l0 x5_1) != (rd l1 x5_1)) = true := bne_iff_ne.mpr c7
                obtain rfl := Option.some.inj H
                have p355 : 0 ≤ (x5_1 : Int) := of_decide_eq_true (by first | (with_reducible assumption) | assumption)
                have q355 : x5_1 < (l0.length : Int) := of_decide_eq_true (by first | (with_reducible assumption) | assumption)
                obtain ⟨ad355, e355, hx355_0⟩ := Kd.at_int HR0.out x5_1 p355 q355
                cases e355
                replace p355 := eq_true p355
                replace q355 := eq_true q355
                have p356 : 0 ≤ (x5_1 : Int) := of_decide_eq_true (by first | (with_reducible assumption) | assumption)
                have q356 : x5_1 < (l1.length : Int) := of_decide_eq_true (by first | (with_reducible assumption) | assumption)
                obtain ⟨ad356, e356, hx356_0⟩ := Kd.at_int HR1.out x5_1 p356 q356
                cases e356
                replace p356 := eq_true p356
                replace q356 := eq_true q356
                go_wp2
                repeat (go_quiet (fail); try go_wp2)
                go_ret
                exact ⟨by first | rfl | (simp; done) | (simp [*]; done), by repeat (first | exact Drawn0.refl _ | apply Drawn0.step)⟩
            · rw [if_neg c6] at H
              exact absurd H (by simp)
          · rw [if_neg c5] at H
            exact absurd H (by simp)
        · rw [if_neg c4] at H
          have c4b0 : decide (x5_1 < (l0.length : Int)) = false := decide_eq_false c4
          clear c4
          obtain rfl := Option.some.inj H
          go_wp2
          repeat (go_quiet (fail); try go_wp2)
          go_ret
          exact ⟨by first | rfl | (simp; done) | (simp [*]; done), by repeat (first | exact Drawn0.refl _ | apply Drawn0.step)⟩
  · rw [if_neg c3] at H
    have c3b0 : ((l0.length : Int) == (l1.length : Int)) = false := beq_eq_false_iff_ne.mpr c3
    have c3b1 : ((l0.length : Int) != (l1.length : Int)) = true := bne_iff_ne.mpr c3
    have c3b2 : (l0.length == l1.length) = false := by first | simpa using c3 | (simp at c3 ⊢; omega)
    obtain rfl := Option.some.inj H
    go_enter Try.func23, Try.ntmps23
    go_wp2
    repeat (go_quiet (fail); try go_wp2)
    go_ret
    exact ⟨by first | rfl | (simp; done) | (simp [*]; done), by repeat (first | exact Drawn0.refl _ | apply Drawn0.step)⟩

/-! ### laws_markIntS: function 24 -/
def laws_markIntS.l0 : Nat → List Int → Int → Int → Option (Int × List Int)
  | 0, _, _, _ => none
  | k + 1, x0, x1, x5 => if x5 < (x0.length : Int) then (if 0 ≤ x5 then (laws_markIntS.l0 k (x0.set (x5 : Int).toNat x1) (wrap64 (x1 + 1)) (wrap64 (x5 + 1))) else (none)) else (some (x1, x0))
def laws_markIntS.f (k : Nat) (l0 : List Int) (a1 : Int) : Option (Int × List Int) := laws_markIntS.l0 k l0 a1 0
theorem laws_markIntS.mono_l : ∀ k, (∀ y0 y1 y2, LeO (laws_markIntS.l0 k y0 y1 y2) (laws_markIntS.l0 (k + 1) y0 y1 y2))
  | 0 => fun _ _ _ r h => by simp [laws_markIntS.l0] at h
  | k + 1 => by
    have ih0 := laws_markIntS.mono_l k
    · intro y0 y1 y2
      unfold laws_markIntS.l0
      repeat' first
      | (with_reducible exact ih0 _ _ _)
      | (with_reducible exact LeO.refl _)
      | (with_reducible exact LeO.none _)
      | (with_reducible refine LeO.ite ?_ ?_)
      | (with_reducible refine LeO.bind ?_ (fun _ => ?_))
      | exact ih0 _ _ _
      | exact LeO.none _
      | refine LeO.ite ?_ ?_
      | refine LeO.bind ?_ (fun _ => ?_)
theorem laws_markIntS.mono : ∀ a0 a1 k, LeO (laws_markIntS.f k a0 a1) (laws_markIntS.f (k + 1) a0 a1) := by
  intro a0 a1 k
  have ih0 := laws_markIntS.mono_l k
  unfold laws_markIntS.f
  repeat' first
      | (with_reducible exact ih0 _ _ _)
      | (with_reducible exact LeO.refl _)
      | (with_reducible exact LeO.none _)
      | (with_reducible refine LeO.ite ?_ ?_)
      | (with_reducible refine LeO.bind ?_ (fun _ => ?_))
      | exact ih0 _ _ _
      | exact LeO.none _
      | refine LeO.ite ?_ ?_
      | refine LeO.bind ?_ (fun _ => ?_)
set_option maxHeartbeats 8000000 in
set_option maxRecDepth 100000 in
theorem laws_markIntS.calls (k : Nat) (P0_ : Nat → Prop) (u9000_ : Value) (l0 : List Int) (a1 : Int) (r1 : Int) (r2 : List Int) (w0 w : World) (hB : Below w0.heap.size w0 w) (ho0 : Kd.R (Kd.int .i64) 3 w w0.heap.size P0_ u9000_ l0) (h : laws_markIntS.f k l0 a1 = some (r1, r2)) :
    Calls Try.prog 24 #[u9000_, .int .i64 a1] w fun e w' => e = .returned (.int .i64 r1) ∧ Kd.R (Kd.int .i64) 3 w' w0.heap.size (fun k_ => (P0_ k_ ∨ w.heap.size ≤ k_)) u9000_ r2 ∧ Below w0.heap.size w0 w' ∧ Kept w w' (fun k_ => P0_ k_) := by
  have HO0 := Aside0.mk (show Kd.R (Kd.int .i64) 3 w w0.heap.size (fun k_ => (P0_ k_ ∨ w.heap.size ≤ k_)) u9000_ l0 from Kd.R_mono ho0 (fun k_ hk => (.inl hk)))
  have HK := Aside0.mk (Kept.refl w (fun k_ => P0_ k_))
  have HW0 := Aside0.mk hB.size
  have HB := Aside0.mk hB
  clear hB
  have H : (laws_markIntS.l0 k l0 a1 0) = some (r1, r2) := h
  clear h
  have H' := Aside0.mk H
  clear H
  go_enter Try.func24, Try.ntmps24
  go_wp2
  go_loopg [1, 5] k (fun kq v1 v5 w' => ∃ (x0_1 : List Int) (x1_1 : Int) (x5_1 : Int), v1 = .int .i64 x1_1 ∧ v5 = .int .i64 x5_1 ∧ Aside0 (laws_markIntS.l0 kq x0_1 x1_1 x5_1 = some (r1, r2)) ∧ Aside0 (kq ≤ k) ∧ Aside0 (Kd.R (Kd.int .i64) 3 w' w0.heap.size (fun k_ => (P0_ k_ ∨ w.heap.size ≤ k_)) u9000_ x0_1) ∧ Aside0 (Kept w w' (fun k_ => P0_ k_)) ∧ Aside0 (Below w0.heap.size w0 w'))
  case atStart => exact ⟨(l0), (a1), (0), (by first | rfl | (simp; done) | (simp [*]; done)), (by first | rfl | (simp; done) | (simp [*]; done)), H', ⟨Nat.le_refl _⟩, ⟨by (with_reducible repeat (first | apply Kd.R_alloc | apply Kd.R_drewN | apply Kd.R_drew)); exact HO0.out⟩, ⟨by repeat (first | (with_reducible first | exact HK.out | apply Kept.alloc | apply Kept.drewN | apply Kept.drew) | exact HK.out)⟩, ⟨by repeat (first | (with_reducible first | exact HB.out | apply below_alloc | apply pw_below_drewN | apply below_drew1) | exact HB.out)⟩⟩
  case round =>
    clear H'
    try clear c2
    try clear p2
    obtain ⟨x0_1, x1_1, x5_1, rfl, rfl, HA, HK1, HO_0, HK, HB⟩ := hrel
    cases gk with
    | zero => exact absurd HA.out (by simp [laws_markIntS.l0])
    | succ k1 =>
      have H := HA.out
      clear HA
      simp only [laws_markIntS.l0] at H
      by_cases c3 : x5_1 < (x0_1.length : Int)
      · rw [if_pos c3] at H
        have c3b0 : decide (x5_1 < (x0_1.length : Int)) = true := decide_eq_true c3
        clear c3
        by_cases c4 : 0 ≤ x5_1
        · rw [if_pos c4] at H
          have c4b0 : decide (0 ≤ x5_1) = true := decide_eq_true c4
          clear c4
          obtain ⟨y357, hy357⟩ : ∃ y_ : List Int, y_ = (x0_1.set (x5_1 : Int).toNat x1_1) := ⟨_, rfl⟩
          replace H : (laws_markIntS.l0 k1 y357 (wrap64 (x1_1 + 1)) (wrap64 (x5_1 + 1))) = some (r1, r2) := by first | (rw [hy357]; with_reducible exact H) | (have H2_ := (Option.bind_some _ _).symm.trans H; rw [hy357]; with_reducible exact H2_) | (have H2_ := (Option.bind_some _ _).symm.trans H; with_reducible exact H2_) | with_reducible exact H | (rw [hy357]; exact H) | exact H
          have Ny357 := Aside0.mk hy357
          clear hy357
          have H' := Aside0.mk H
          clear H
          obtain ⟨Ao6, co6, eo6⟩ := Kd.R_slice HO_0.out
          subst eo6
          have p5 : 0 ≤ (x5_1 : Int) := of_decide_eq_true (by first | (with_reducible assumption) | assumption)
          have q5 : (x5_1 : Int) < ((x0_1.length : Int) : Int) := of_decide_eq_true (by first | (with_reducible assumption) | assumption)
          obtain ⟨go5, co5, eo5, gb5, gl5, cl5, HG5⟩ := Kd.R_form HO_0.out (by omega)
          (first | cases eo5 | (injection eo5 with ea_ en_ ec_; (first | subst ea_ | (injection ea_ with ea_; subst ea_)); subst ec_; clear en_))
          have GB5 := Aside0.mk gb5
          have GG5 := Aside0.mk HG5
          clear gb5 gl5 HG5
          have HMgo5 := Aside0.mk (show (P0_ go5 ∨ w.heap.size ≤ go5) from (HO_0.out.1 _ rfl))
          obtain ⟨hx5_0, hf5_0⟩ := Kd.R_celln 0 HO_0.out (x5_1 : Int) p5 q5
          replace p5 := eq_true p5
          replace q5 := eq_true q5
          have HP7 := Kd.R_putg HO_0.out (x5_1 : Int) x1_1
          go_wp2_with (first | ((with_reducible refine gate_store (t := 3) (p := 15) rfl ?_); refine store_event (t := 3) (p := 15) (v := ?vo_w8) (w1 := (wr.setCell ⟨go5, (x5_1 : Int).toNat, none⟩ (.int .i64 x1_1))) ?hg ?ho ?hn ?hr ?_; (case ho => rfl); (case hg => rfl); (case hn => rfl); (case hr => first | (go_simp; done) | (go_simp; rfl)); intro w8 hw; have hg : wr.grownBy w8 (some go5) := (by rw [hw]; exact HP7.2); have hp_ : Kd.R (Kd.int .i64) 3 w8 w0.heap.size (fun k_ => (P0_ k_ ∨ w.heap.size ≤ k_)) (.slice (some ⟨go5, 0, none⟩) x0_1.length co6) y357 := (by rw [hw, Ny357.out]; exact HP7.1); clear HP7; have n0_ := Aside0.mk (hp_); have n1_ := Aside0.mk ((by rw [hw]; exact below_set (HB.out) GB5.out : Below w0.heap.size w0 w8)); have n2_ := Aside0.mk (Kept.of_grown (S := (fun k_ => P0_ k_)) hg (by repeat (first | (with_reducible first | exact HK.out | apply Kept.alloc | apply Kept.drewN | apply Kept.drew) | exact HK.out)) (fun k_ e_ => (HO_0.out.1 k_ e_))); clear HO_0; clear HB; clear HK; have HO_0 := n0_; have HB := n1_; have HK := n2_; clear n0_ n1_ n2_; clear hg hw hp_))
          go_roundg k1
          case measure => have := HK1.out; omega
          case rel => exact ⟨(y357), (wrap64 (x1_1 + 1)), (wrap64 (x5_1 + 1)), (by first | rfl | (simp; done) | (simp [*]; done)), (by first | rfl | (simp; done) | (simp [*]; done)), H', ⟨by have := HK1.out; omega⟩, ⟨by (with_reducible repeat (first | apply Kd.R_alloc | apply Kd.R_drewN | apply Kd.R_drew)); exact HO_0.out⟩, ⟨by repeat (first | (with_reducible first | exact HK.out | apply Kept.alloc | apply Kept.drewN | apply Kept.drew) | exact HK.out)⟩, ⟨by repeat (first | (with_reducible first | exact HB.out | apply below_alloc | apply pw_below_drewN | apply below_drew1) | exact HB.out)⟩⟩
        · rw [if_neg c4] at H
          exact absurd H (by simp)
      · rw [if_neg c3] at H
        have c3b0 : decide (x5_1 < (x0_1.length : Int)) = false := decide_eq_false c3
        clear c3
        simp only [Option.some.injEq, Prod.mk.injEq] at H
        obtain ⟨rfl, rfl⟩ := H
        obtain ⟨Ao9, co9, eo9⟩ := Kd.R_slice HO_0.out
        subst eo9
        go_wp2
        go_ret
        exact ⟨by first | rfl | (simp [errW_none, errW_some] <;> rfl) | (simp [*, errW_none, errW_some] <;> rfl), by (with_reducible repeat (first | apply Kd.R_alloc | apply Kd.R_drewN | apply Kd.R_drew)); exact HO_0.out, by repeat (first | (with_reducible first | exact HB.out | apply below_alloc | apply pw_below_drewN | apply below_drew1) | exact HB.out), by repeat (first | (with_reducible first | exact HK.out | apply Kept.alloc | apply Kept.drewN | apply Kept.drew) | exact HK.out)⟩

-- NOT PRINTED: function 4 (laws_FnExactDiskCrash)

end Go.Proofs.Ytnklkjkbdipohaa.PFnExactDiskCrash
