-- A program of this claim's session wrote this text.
import Derived.Test.YtcdnfonholkflaaPFnExactRangeBothx0
import Derived.Test.YtcdnfonholkflaaPFnExactRangeBothx1
import Derived.Test.YtcdnfonholkflaaPFnExactRangeBothx2
namespace Go.Proofs.Ytcdnfonholkflaa.PFnExactRangeBoth
open Go.RowKit Go.Proofs.YtcdnfonholkflaaW.PrintWords Go.Proofs.YtcdnfonholkflaaW.PrintLast Go.Proofs.YtcdnfonholkflaaW.PrintMore
attribute [local go_sem] max2_int min2_int max_two min_two max_three min_three max_four min_four   -- for this text's walks alone
set_option linter.unusedVariables false
set_option linter.unusedSimpArgs false
set_option hygiene false in
local macro "sq0_" : tactic => `(tactic| (exact ⟨by first | rfl | (simp [errW_none, errW_some] <;> rfl) | (simp [*, errW_none, errW_some] <;> rfl), by repeat (first | (with_reducible first | exact HB.out | apply below_alloc | apply pw_below_drewN | apply below_drew1 | refine below_set ?_ GE124.out | refine below_set ?_ GE125.out) | exact HB.out)⟩))
set_option hygiene false in
local macro "sq1_" : tactic => `(tactic| (refine start_ (n := 11) (S := fun w' => w'.cell? ⟨gb124, 0, none⟩ = some (.string a0_0) ∧ w'.cell? ⟨gb124, 1, none⟩ = some (.string a0_1) ∧ w'.cell? ⟨gb125, 0, none⟩ = some (.string a1_0) ∧ w'.cell? ⟨gb125, 1, none⟩ = some (.string a1_1)) (ds := []) #[false, false, false, false, false, false, false, false, false, false, false] (by kernel_rfl) rfl rfl ⟨(blk_cell BK124.out 0).trans rfl, (blk_cell BK124.out 1).trans rfl, (blk_cell BK125.out 0).trans rfl, (blk_cell BK125.out 1).trans rfl⟩ (fun hHeld => ?_); refine with_tabW laws_FnExactRangeBoth.tab8 laws_FnExactRangeBoth.bits8 (fun HT_ HW_ => ?_)))
set_option hygiene false in
local macro "sq2_" : tactic => `(tactic| (refine take_ (i := 0) (N := some 21) (v := ?_) (a' := ?_) #[true, false, false, false, false, false, false, false, false, false, false] rfl rfl (take_ofW HT_.out HW_.out (by kernel_rfl)) (fun _ _ _ h => h) (Or.inl ⟨by rfl, ?_⟩) hHeld ?_ ?_))
set_option hygiene false in
local macro "sq3_" : tactic => `(tactic| (simp only [Act.put, List.setIfInBounds_toArray, List.set_cons_zero, List.set_cons_succ, i64_w, i32_w]))
set_option hygiene false in
local macro "sq4_" : tactic => `(tactic| (refine take_ (i := 2) (N := some 23) (v := ?_) (a' := ?_) #[true, false, true, false, false, false, false, false, false, false, false] rfl rfl (take_ofW HT_.out HW_.out (by kernel_rfl)) (fun _ _ _ h => h) (Or.inl ⟨by rfl, ?_⟩) hHeld ?_ ?_))
set_option hygiene false in
local macro "sq5_" : tactic => `(tactic| (refine join_ (σ := Nat) 2 #[true, true, true, true, true, true, true, true, true, false, false] (fun s_ => [(22, .agg #[.string t128, .string t129]), (24, .agg #[.string t130, .string t131]), (25, .tuple #[.agg #[.string t132, .string t133], .bool t134]), (6, .pointer (some ⟨s_, 0, none⟩)), (20, .tuple #[.agg #[.string t132, .string t133], .bool t134]), (26, .agg #[.string t132, .string t133]), (27, .bool t134)]) (fun s_ w' => (w'.cell? ⟨gb124, 0, none⟩ = some (.string a0_0) ∧ w'.cell? ⟨gb124, 1, none⟩ = some (.string a0_1) ∧ w'.cell? ⟨gb125, 0, none⟩ = some (.string a1_0) ∧ w'.cell? ⟨gb125, 1, none⟩ = some (.string a1_1)) ∧ (w'.heap[gb124]? = some (.cells #[.string a0_0, .string a0_1] 23 (0, 0))) ∧ (w'.heap[gb125]? = some (.cells #[.string a1_0, .string a1_1] 23 (0, 0))) ∧ (w'.heap[s_]? = some (.cells #[.string (⟨#[]⟩ : ByteArray), .string (⟨#[]⟩ : ByteArray)] 25 (0, 0))) ∧ (w.heap.size ≤ s_) ∧ (w.heap.size ≤ s_) ∧ (gb124 ≠ s_) ∧ (s_ ≠ gb124) ∧ (gb125 ≠ s_) ∧ (s_ ≠ gb125) ∧ (Below w.heap.size w w')) ?_ ?_))
set_option hygiene false in
local macro "sq6_" : tactic => `(tactic| (refine two_ (i := 1) (j := 8) (Ni := some 22) (Nj := some 6) #[true, true, true, false, false, false, false, false, false, false, false] #[true, false, true, false, false, false, false, false, true, false, false] rfl rfl rfl rfl (two_of HT_.out (by kernel_rfl)) (by decide) (by decide) (fun K hK => ?_) (fun K hK => ?_)))
set_option hygiene false in
local macro "sq7_" : tactic => `(tactic| (refine goes_ Try.func17 (by kernel_rfl) rfl #[.agg #[.string a0_0, .string a0_1]] (by rfl) rfl rfl (by (try simp only [List.map_toArray, List.map_cons, List.map_nil]); first | done | rfl | (simp only [List.length_drop, List.length_take]; rfl)) ?_))
set_option hygiene false in
local macro "sq8_" : tactic => `(tactic| (have n0_ := Aside0.mk (blk_below (g := gb124) (o := .cells #[.string a0_0, .string a0_1] 23 (0, 0)) (by (with_reducible repeat (first | refine blk_drewN ?_ _ | refine blk_drew ?_ | refine blk_alloc ?_ _)); exact BK124.out) hb)))
set_option hygiene false in
local macro "sq9_" : tactic => `(tactic| (have n1_ := Aside0.mk (blk_below (g := gb125) (o := .cells #[.string a1_0, .string a1_1] 23 (0, 0)) (by (with_reducible repeat (first | refine blk_drewN ?_ _ | refine blk_drew ?_ | refine blk_alloc ?_ _)); exact BK125.out) hb)))
set_option hygiene false in
local macro "sq10_" : tactic => `(tactic| (have n2_ := Aside0.mk (below_step (by repeat (first | (with_reducible first | exact HB.out | apply below_alloc | apply pw_below_drewN | apply below_drew1 | refine below_set ?_ GE124.out | refine below_set ?_ GE125.out) | exact HB.out)) hb)))
set_option hygiene false in
local macro "sq11_" : tactic => `(tactic| (refine hK.out _ _ ⟨(blk_cell BK124.out 0).trans rfl, (blk_cell BK124.out 1).trans rfl, (blk_cell BK125.out 0).trans rfl, (blk_cell BK125.out 1).trans rfl⟩ (fun hHeld => ?_)))
set_option hygiene false in
local macro "sq12_" : tactic => `(tactic| (refine two_ (i := 3) (j := 8) (Ni := some 24) (Nj := some 6) #[true, true, true, true, false, false, false, false, false, false, false] #[true, true, true, false, false, false, false, false, true, false, false] rfl rfl rfl rfl (two_of HT_.out (by kernel_rfl)) (by decide) (by decide) (fun K hK => ?_) (fun K hK => ?_)))
set_option hygiene false in
local macro "sq13_" : tactic => `(tactic| (refine goes_ Try.func17 (by kernel_rfl) rfl #[.agg #[.string a1_0, .string a1_1]] (by rfl) rfl rfl (by (try simp only [List.map_toArray, List.map_cons, List.map_nil]); first | done | rfl | (simp only [List.length_drop, List.length_take]; rfl)) ?_))
set_option hygiene false in
local macro "sq14_" : tactic => `(tactic| (refine two_ (i := 4) (j := 8) (Ni := some 25) (Nj := some 6) #[true, true, true, true, true, false, false, false, false, false, false] #[true, true, true, true, false, false, false, false, true, false, false] rfl rfl rfl rfl (two_of HT_.out (by kernel_rfl)) (by decide) (by decide) (fun K hK => ?_) (fun K hK => ?_)))
set_option hygiene false in
local macro "sq15_" : tactic => `(tactic| (refine goes_ Try.func16 (by kernel_rfl) rfl #[.agg #[.string t128, .string t129], .agg #[.string t130, .string t131]] (by rfl) rfl rfl (by (try simp only [List.map_toArray, List.map_cons, List.map_nil]); first | done | rfl | (simp only [List.length_drop, List.length_take]; rfl)) ?_))
set_option hygiene false in
local macro "sq16_" : tactic => `(tactic| (refine pure_ (i := 5) (N := some 20) (v := ?_) (a' := ?_) #[true, true, true, true, true, true, false, false, false, false, false] rfl rfl (any_of HT_.out (by kernel_rfl)) (fun _ _ _ h => h) (Or.inl ⟨by rfl, ?_⟩) ?_ ?_))
set_option hygiene false in
local macro "sq17_" : tactic => `(tactic| (refine pure_ (i := 6) (N := some 26) (v := ?_) (a' := ?_) #[true, true, true, true, true, true, true, false, false, false, false] rfl rfl (any_of HT_.out (by kernel_rfl)) (fun _ _ _ h => h) (Or.inl ⟨by rfl, ?_⟩) ?_ ?_))
set_option hygiene false in
local macro "sq18_" : tactic => `(tactic| (refine pure_ (i := 7) (N := some 27) (v := ?_) (a' := ?_) #[true, true, true, true, true, true, true, true, false, false, false] rfl rfl (any_of HT_.out (by kernel_rfl)) (fun _ _ _ h => h) (Or.inl ⟨by rfl, ?_⟩) ?_ ?_))
set_option hygiene false in
local macro "sq19_" : tactic => `(tactic| (refine one_ (i := 8) (N := some 6) #[true, true, true, true, true, true, true, true, true, false, false] rfl rfl (one_of HT_.out (by kernel_rfl)) (by decide) (fun K hK => ?_)))
set_option hygiene false in
local macro "sq20_" : tactic => `(tactic| (refine box_step ?hg (N := 6) ?hd (cs := #[.string (⟨#[]⟩ : ByteArray), .string (⟨#[]⟩ : ByteArray)]) (t := 25) ?hr ?_; (case hd => rfl); (case hg => rfl); (case hr => first | (go_simp; done) | (go_simp; rfl))))
set_option hygiene false in
local macro "sq21_" : tactic => `(tactic| (have n4_ := Aside0.mk ((by rw [hg]; exact (below_size (by repeat (first | (with_reducible first | exact HB.out | apply below_alloc | apply pw_below_drewN | apply below_drew1 | refine below_set ?_ GE124.out | refine below_set ?_ GE125.out) | exact HB.out))) : w.heap.size ≤ gb135))))
set_option hygiene false in
local macro "sq22_" : tactic => `(tactic| (have n5_ := Aside0.mk ((by rw [hg]; exact (below_size (by repeat (first | (with_reducible first | exact HB.out | apply below_alloc | apply pw_below_drewN | apply below_drew1 | refine below_set ?_ GE124.out | refine below_set ?_ GE125.out) | exact HB.out))) : w.heap.size ≤ gb135))))
set_option hygiene false in
local macro "sq23_" : tactic => `(tactic| (have n6_ := Aside0.mk ((by rw [hg]; exact Nat.ne_of_lt (blk_lt (g := gb124) (o := .cells #[.string a0_0, .string a0_1] 23 (0, 0)) (by (with_reducible repeat (first | refine blk_drewN ?_ _ | refine blk_drew ?_ | refine blk_alloc ?_ _)); exact BK124.out)) : gb124 ≠ gb135))))
set_option hygiene false in
local macro "sq24_" : tactic => `(tactic| (have n7_ := Aside0.mk ((by rw [hg]; exact Nat.ne_of_gt (blk_lt (g := gb124) (o := .cells #[.string a0_0, .string a0_1] 23 (0, 0)) (by (with_reducible repeat (first | refine blk_drewN ?_ _ | refine blk_drew ?_ | refine blk_alloc ?_ _)); exact BK124.out)) : gb135 ≠ gb124))))
set_option hygiene false in
local macro "sq25_" : tactic => `(tactic| (have n8_ := Aside0.mk ((by rw [hg]; exact Nat.ne_of_lt (blk_lt (g := gb125) (o := .cells #[.string a1_0, .string a1_1] 23 (0, 0)) (by (with_reducible repeat (first | refine blk_drewN ?_ _ | refine blk_drew ?_ | refine blk_alloc ?_ _)); exact BK125.out)) : gb125 ≠ gb135))))
set_option hygiene false in
local macro "sq26_" : tactic => `(tactic| (have n9_ := Aside0.mk ((by rw [hg]; exact Nat.ne_of_gt (blk_lt (g := gb125) (o := .cells #[.string a1_0, .string a1_1] 23 (0, 0)) (by (with_reducible repeat (first | refine blk_drewN ?_ _ | refine blk_drew ?_ | refine blk_alloc ?_ _)); exact BK125.out)) : gb135 ≠ gb125))))
set_option hygiene false in
local macro "sq27_" : tactic => `(tactic| (exact norm_ (by simp only [putAll, Act.put, List.setIfInBounds_toArray, List.set_cons_zero, List.set_cons_succ]) (hCont (gb135) _ ⟨hHeld, (by (with_reducible repeat (first | refine blk_drewN ?_ _ | refine blk_drew ?_ | refine blk_alloc ?_ _)); exact BK124.out), (by (with_reducible repeat (first | refine blk_drewN ?_ _ | refine blk_drew ?_ | refine blk_alloc ?_ _)); exact BK125.out), (by (with_reducible repeat (first | refine blk_drewN ?_ _ | refine blk_drew ?_ | refine blk_alloc ?_ _)); exact BK135.out), GW135.out, GE135.out, NB124_135.out, NB135_124.out, NB125_135.out, NB135_125.out, (by repeat (first | (with_reducible first | exact HB.out | apply below_alloc | apply pw_below_drewN | apply below_drew1 | refine below_set ?_ GE124.out | refine below_set ?_ GE125.out | refine below_set ?_ GE135.out) | exact HB.out))⟩)))
set_option hygiene false in
local macro "sq28_" : tactic => `(tactic| (refine one_ (i := 4) (N := some 25) #[true, true, true, true, true, false, false, false, true, false, false] rfl rfl (one_of HT_.out (by kernel_rfl)) (by decide) (fun K hK => ?_)))
set_option hygiene false in
local macro "sq29_" : tactic => `(tactic| (have n2_ := Aside0.mk (blk_below (g := gb135) (o := .cells #[.string (⟨#[]⟩ : ByteArray), .string (⟨#[]⟩ : ByteArray)] 25 (0, 0)) (by (with_reducible repeat (first | refine blk_drewN ?_ _ | refine blk_drew ?_ | refine blk_alloc ?_ _)); exact BK135.out) hb)))
set_option hygiene false in
local macro "sq30_" : tactic => `(tactic| (have n3_ := Aside0.mk (below_step (by repeat (first | (with_reducible first | exact HB.out | apply below_alloc | apply pw_below_drewN | apply below_drew1 | refine below_set ?_ GE124.out | refine below_set ?_ GE125.out | refine below_set ?_ GE135.out) | exact HB.out)) hb)))
set_option hygiene false in
local macro "sq31_" : tactic => `(tactic| (refine pure_ (i := 5) (N := some 20) (v := ?_) (a' := ?_) #[true, true, true, true, true, true, false, false, true, false, false] rfl rfl (any_of HT_.out (by kernel_rfl)) (fun _ _ _ h => h) (Or.inl ⟨by rfl, ?_⟩) ?_ ?_))
set_option hygiene false in
local macro "sq32_" : tactic => `(tactic| (refine pure_ (i := 6) (N := some 26) (v := ?_) (a' := ?_) #[true, true, true, true, true, true, true, false, true, false, false] rfl rfl (any_of HT_.out (by kernel_rfl)) (fun _ _ _ h => h) (Or.inl ⟨by rfl, ?_⟩) ?_ ?_))
set_option hygiene false in
local macro "sq33_" : tactic => `(tactic| (refine pure_ (i := 7) (N := some 27) (v := ?_) (a' := ?_) #[true, true, true, true, true, true, true, true, true, false, false] rfl rfl (any_of HT_.out (by kernel_rfl)) (fun _ _ _ h => h) (Or.inl ⟨by rfl, ?_⟩) ?_ ?_))
set_option hygiene false in
local macro "sq34_" : tactic => `(tactic| (refine one_ (i := 3) (N := some 24) #[true, true, true, true, false, false, false, false, true, false, false] rfl rfl (one_of HT_.out (by kernel_rfl)) (by decide) (fun K hK => ?_)))
set_option hygiene false in
local macro "sq35_" : tactic => `(tactic| (refine one_ (i := 1) (N := some 22) #[true, true, true, false, false, false, false, false, true, false, false] rfl rfl (one_of HT_.out (by kernel_rfl)) (by decide) (fun K hK => ?_)))
set_option hygiene false in
local macro "sq36_" : tactic => `(tactic| (simp only [putAll, Act.put, List.setIfInBounds_toArray, List.set_cons_zero, List.set_cons_succ]))
set_option hygiene false in
local macro "sq37_" : tactic => `(tactic| (refine one_ (i := 9) (N := none) #[true, true, true, true, true, true, true, true, true, true, false] rfl rfl (one_of HT_.out (by kernel_rfl)) (by decide) (fun K hK => ?_)))
set_option hygiene false in
local macro "sq38_" : tactic => `(tactic| (refine hK.out _ _ ⟨((cell_far (p := ⟨gb135, _, none⟩) NB124_135.out _).trans (((cell_far (p := ⟨gb135, _, none⟩) NB124_135.out _).trans (hHeld.1)))), ((cell_far (p := ⟨gb135, _, none⟩) NB124_135.out _).trans (((cell_far (p := ⟨gb135, _, none⟩) NB124_135.out _).trans (hHeld.2.1)))), ((cell_far (p := ⟨gb135, _, none⟩) NB125_135.out _).trans (((cell_far (p := ⟨gb135, _, none⟩) NB125_135.out _).trans (hHeld.2.2.1)))), ((cell_far (p := ⟨gb135, _, none⟩) NB125_135.out _).trans (((cell_far (p := ⟨gb135, _, none⟩) NB125_135.out _).trans (hHeld.2.2.2))))⟩ (fun hHeld => ?_)))
set_option hygiene false in
local macro "sq39_" : tactic => `(tactic| (refine pure_ (i := 10) (N := some 7) (v := ?_) (a' := ?_) #[true, true, true, true, true, true, true, true, true, true, true] rfl rfl (any_of HT_.out (by kernel_rfl)) (fun _ _ _ h => h) (Or.inl ⟨by rfl, ?_⟩) ?_ ?_))
set_option hygiene false in
local macro "sq40_" : tactic => `(tactic| (refine start_ (n := 11) (S := fun w' => w'.cell? ⟨gb124, 0, none⟩ = some (.string a0_0) ∧ w'.cell? ⟨gb124, 1, none⟩ = some (.string a0_1) ∧ w'.cell? ⟨gb125, 0, none⟩ = some (.string a1_0) ∧ w'.cell? ⟨gb125, 1, none⟩ = some (.string a1_1)) (ds := []) #[false, false, false, false, false, false, false, false, false, false, false] (by kernel_rfl) rfl rfl ⟨(blk_cell BK124.out 0).trans rfl, (blk_cell BK124.out 1).trans rfl, (blk_cell BK125.out 0).trans rfl, (blk_cell BK125.out 1).trans rfl⟩ (fun hHeld => ?_); refine with_tabW laws_FnExactRangeBoth.tab9 laws_FnExactRangeBoth.bits9 (fun HT_ HW_ => ?_)))
set_option hygiene false in
local macro "sq41_" : tactic => `(tactic| (refine take_ (i := 0) (N := some 29) (v := ?_) (a' := ?_) #[true, false, false, false, false, false, false, false, false, false, false] rfl rfl (take_ofW HT_.out HW_.out (by kernel_rfl)) (fun _ _ _ h => h) (Or.inl ⟨by rfl, ?_⟩) hHeld ?_ ?_))
set_option hygiene false in
local macro "sq42_" : tactic => `(tactic| (refine take_ (i := 2) (N := some 31) (v := ?_) (a' := ?_) #[true, false, true, false, false, false, false, false, false, false, false] rfl rfl (take_ofW HT_.out HW_.out (by kernel_rfl)) (fun _ _ _ h => h) (Or.inl ⟨by rfl, ?_⟩) hHeld ?_ ?_))
set_option hygiene false in
local macro "sq43_" : tactic => `(tactic| (refine join_ (σ := Nat) 2 #[true, true, true, true, true, true, true, true, true, false, false] (fun s_ => [(30, .agg #[.string t136, .string t137]), (32, .agg #[.string t138, .string t139]), (33, .tuple #[.agg #[.string t140, .string t141], .bool t142]), (8, .pointer (some ⟨s_, 0, none⟩)), (28, .tuple #[.agg #[.string t140, .string t141], .bool t142]), (34, .agg #[.string t140, .string t141]), (35, .bool t142)]) (fun s_ w' => (w'.cell? ⟨gb124, 0, none⟩ = some (.string a0_0) ∧ w'.cell? ⟨gb124, 1, none⟩ = some (.string a0_1) ∧ w'.cell? ⟨gb125, 0, none⟩ = some (.string a1_0) ∧ w'.cell? ⟨gb125, 1, none⟩ = some (.string a1_1)) ∧ (w'.heap[gb124]? = some (.cells #[.string a0_0, .string a0_1] 23 (0, 0))) ∧ (w'.heap[gb125]? = some (.cells #[.string a1_0, .string a1_1] 23 (0, 0))) ∧ (w'.heap[gb135]? = some (.cells #[.string t132, .string t133] 25 (0, 0))) ∧ (w'.heap[s_]? = some (.cells #[.string (⟨#[]⟩ : ByteArray), .string (⟨#[]⟩ : ByteArray)] 25 (0, 0))) ∧ (w.heap.size ≤ s_) ∧ (w.heap.size ≤ s_) ∧ (gb124 ≠ s_) ∧ (s_ ≠ gb124) ∧ (gb125 ≠ s_) ∧ (s_ ≠ gb125) ∧ (gb135 ≠ s_) ∧ (s_ ≠ gb135) ∧ (Below w.heap.size w w')) ?_ ?_))
set_option hygiene false in
local macro "sq44_" : tactic => `(tactic| (refine two_ (i := 1) (j := 8) (Ni := some 30) (Nj := some 8) #[true, true, true, false, false, false, false, false, false, false, false] #[true, false, true, false, false, false, false, false, true, false, false] rfl rfl rfl rfl (two_of HT_.out (by kernel_rfl)) (by decide) (by decide) (fun K hK => ?_) (fun K hK => ?_)))
set_option hygiene false in
local macro "sq45_" : tactic => `(tactic| (have n2_ := Aside0.mk (blk_below (g := gb135) (o := .cells #[.string t132, .string t133] 25 (0, 0)) (by (with_reducible repeat (first | refine blk_drewN ?_ _ | refine blk_drew ?_ | refine blk_alloc ?_ _)); exact BK135.out) hb)))
set_option hygiene false in
local macro "sq46_" : tactic => `(tactic| (refine two_ (i := 3) (j := 8) (Ni := some 32) (Nj := some 8) #[true, true, true, true, false, false, false, false, false, false, false] #[true, true, true, false, false, false, false, false, true, false, false] rfl rfl rfl rfl (two_of HT_.out (by kernel_rfl)) (by decide) (by decide) (fun K hK => ?_) (fun K hK => ?_)))
set_option hygiene false in
local macro "sq47_" : tactic => `(tactic| (refine two_ (i := 4) (j := 8) (Ni := some 33) (Nj := some 8) #[true, true, true, true, true, false, false, false, false, false, false] #[true, true, true, true, false, false, false, false, true, false, false] rfl rfl rfl rfl (two_of HT_.out (by kernel_rfl)) (by decide) (by decide) (fun K hK => ?_) (fun K hK => ?_)))
set_option hygiene false in
local macro "sq48_" : tactic => `(tactic| (refine goes_ Try.func18 (by kernel_rfl) rfl #[.agg #[.string t136, .string t137], .agg #[.string t138, .string t139]] (by rfl) rfl rfl (by (try simp only [List.map_toArray, List.map_cons, List.map_nil]); first | done | rfl | (simp only [List.length_drop, List.length_take]; rfl)) ?_))
set_option hygiene false in
local macro "sq49_" : tactic => `(tactic| (refine pure_ (i := 5) (N := some 28) (v := ?_) (a' := ?_) #[true, true, true, true, true, true, false, false, false, false, false] rfl rfl (any_of HT_.out (by kernel_rfl)) (fun _ _ _ h => h) (Or.inl ⟨by rfl, ?_⟩) ?_ ?_))
set_option hygiene false in
local macro "sq50_" : tactic => `(tactic| (refine pure_ (i := 6) (N := some 34) (v := ?_) (a' := ?_) #[true, true, true, true, true, true, true, false, false, false, false] rfl rfl (any_of HT_.out (by kernel_rfl)) (fun _ _ _ h => h) (Or.inl ⟨by rfl, ?_⟩) ?_ ?_))
set_option hygiene false in
local macro "sq51_" : tactic => `(tactic| (refine pure_ (i := 7) (N := some 35) (v := ?_) (a' := ?_) #[true, true, true, true, true, true, true, true, false, false, false] rfl rfl (any_of HT_.out (by kernel_rfl)) (fun _ _ _ h => h) (Or.inl ⟨by rfl, ?_⟩) ?_ ?_))
set_option hygiene false in
local macro "sq52_" : tactic => `(tactic| (refine one_ (i := 8) (N := some 8) #[true, true, true, true, true, true, true, true, true, false, false] rfl rfl (one_of HT_.out (by kernel_rfl)) (by decide) (fun K hK => ?_)))
set_option hygiene false in
local macro "sq53_" : tactic => `(tactic| (refine box_step ?hg (N := 8) ?hd (cs := #[.string (⟨#[]⟩ : ByteArray), .string (⟨#[]⟩ : ByteArray)]) (t := 25) ?hr ?_; (case hd => rfl); (case hg => rfl); (case hr => first | (go_simp; done) | (go_simp; rfl))))
set_option hygiene false in
local macro "sq54_" : tactic => `(tactic| (have n5_ := Aside0.mk ((by rw [hg]; exact (below_size (by repeat (first | (with_reducible first | exact HB.out | apply below_alloc | apply pw_below_drewN | apply below_drew1 | refine below_set ?_ GE124.out | refine below_set ?_ GE125.out | refine below_set ?_ GE135.out) | exact HB.out))) : w.heap.size ≤ gb143))))
set_option hygiene false in
local macro "sq55_" : tactic => `(tactic| (have n6_ := Aside0.mk ((by rw [hg]; exact (below_size (by repeat (first | (with_reducible first | exact HB.out | apply below_alloc | apply pw_below_drewN | apply below_drew1 | refine below_set ?_ GE124.out | refine below_set ?_ GE125.out | refine below_set ?_ GE135.out) | exact HB.out))) : w.heap.size ≤ gb143))))
set_option hygiene false in
local macro "sq56_" : tactic => `(tactic| (have n7_ := Aside0.mk ((by rw [hg]; exact Nat.ne_of_lt (blk_lt (g := gb124) (o := .cells #[.string a0_0, .string a0_1] 23 (0, 0)) (by (with_reducible repeat (first | refine blk_drewN ?_ _ | refine blk_drew ?_ | refine blk_alloc ?_ _)); exact BK124.out)) : gb124 ≠ gb143))))
set_option hygiene false in
local macro "sq57_" : tactic => `(tactic| (have n8_ := Aside0.mk ((by rw [hg]; exact Nat.ne_of_gt (blk_lt (g := gb124) (o := .cells #[.string a0_0, .string a0_1] 23 (0, 0)) (by (with_reducible repeat (first | refine blk_drewN ?_ _ | refine blk_drew ?_ | refine blk_alloc ?_ _)); exact BK124.out)) : gb143 ≠ gb124))))
set_option hygiene false in
local macro "sq58_" : tactic => `(tactic| (have n9_ := Aside0.mk ((by rw [hg]; exact Nat.ne_of_lt (blk_lt (g := gb125) (o := .cells #[.string a1_0, .string a1_1] 23 (0, 0)) (by (with_reducible repeat (first | refine blk_drewN ?_ _ | refine blk_drew ?_ | refine blk_alloc ?_ _)); exact BK125.out)) : gb125 ≠ gb143))))
set_option hygiene false in
local macro "sq59_" : tactic => `(tactic| (have n10_ := Aside0.mk ((by rw [hg]; exact Nat.ne_of_gt (blk_lt (g := gb125) (o := .cells #[.string a1_0, .string a1_1] 23 (0, 0)) (by (with_reducible repeat (first | refine blk_drewN ?_ _ | refine blk_drew ?_ | refine blk_alloc ?_ _)); exact BK125.out)) : gb143 ≠ gb125))))
set_option hygiene false in
local macro "sq60_" : tactic => `(tactic| (have n11_ := Aside0.mk ((by rw [hg]; exact Nat.ne_of_lt (blk_lt (g := gb135) (o := .cells #[.string t132, .string t133] 25 (0, 0)) (by (with_reducible repeat (first | refine blk_drewN ?_ _ | refine blk_drew ?_ | refine blk_alloc ?_ _)); exact BK135.out)) : gb135 ≠ gb143))))
set_option hygiene false in
local macro "sq61_" : tactic => `(tactic| (have n12_ := Aside0.mk ((by rw [hg]; exact Nat.ne_of_gt (blk_lt (g := gb135) (o := .cells #[.string t132, .string t133] 25 (0, 0)) (by (with_reducible repeat (first | refine blk_drewN ?_ _ | refine blk_drew ?_ | refine blk_alloc ?_ _)); exact BK135.out)) : gb143 ≠ gb135))))
set_option hygiene false in
local macro "sq62_" : tactic => `(tactic| (exact norm_ (by simp only [putAll, Act.put, List.setIfInBounds_toArray, List.set_cons_zero, List.set_cons_succ]) (hCont (gb143) _ ⟨hHeld, (by (with_reducible repeat (first | refine blk_drewN ?_ _ | refine blk_drew ?_ | refine blk_alloc ?_ _)); exact BK124.out), (by (with_reducible repeat (first | refine blk_drewN ?_ _ | refine blk_drew ?_ | refine blk_alloc ?_ _)); exact BK125.out), (by (with_reducible repeat (first | refine blk_drewN ?_ _ | refine blk_drew ?_ | refine blk_alloc ?_ _)); exact BK135.out), (by (with_reducible repeat (first | refine blk_drewN ?_ _ | refine blk_drew ?_ | refine blk_alloc ?_ _)); exact BK143.out), GW143.out, GE143.out, NB124_143.out, NB143_124.out, NB125_143.out, NB143_125.out, NB135_143.out, NB143_135.out, (by repeat (first | (with_reducible first | exact HB.out | apply below_alloc | apply pw_below_drewN | apply below_drew1 | refine below_set ?_ GE124.out | refine below_set ?_ GE125.out | refine below_set ?_ GE135.out | refine below_set ?_ GE143.out) | exact HB.out))⟩)))
set_option hygiene false in
local macro "sq63_" : tactic => `(tactic| (refine one_ (i := 4) (N := some 33) #[true, true, true, true, true, false, false, false, true, false, false] rfl rfl (one_of HT_.out (by kernel_rfl)) (by decide) (fun K hK => ?_)))
set_option hygiene false in
local macro "sq64_" : tactic => `(tactic| (have n3_ := Aside0.mk (blk_below (g := gb143) (o := .cells #[.string (⟨#[]⟩ : ByteArray), .string (⟨#[]⟩ : ByteArray)] 25 (0, 0)) (by (with_reducible repeat (first | refine blk_drewN ?_ _ | refine blk_drew ?_ | refine blk_alloc ?_ _)); exact BK143.out) hb)))
set_option hygiene false in
local macro "sq65_" : tactic => `(tactic| (have n4_ := Aside0.mk (below_step (by repeat (first | (with_reducible first | exact HB.out | apply below_alloc | apply pw_below_drewN | apply below_drew1 | refine below_set ?_ GE124.out | refine below_set ?_ GE125.out | refine below_set ?_ GE135.out | refine below_set ?_ GE143.out) | exact HB.out)) hb)))
set_option hygiene false in
local macro "sq66_" : tactic => `(tactic| (refine pure_ (i := 5) (N := some 28) (v := ?_) (a' := ?_) #[true, true, true, true, true, true, false, false, true, false, false] rfl rfl (any_of HT_.out (by kernel_rfl)) (fun _ _ _ h => h) (Or.inl ⟨by rfl, ?_⟩) ?_ ?_))
set_option hygiene false in
local macro "sq67_" : tactic => `(tactic| (refine pure_ (i := 6) (N := some 34) (v := ?_) (a' := ?_) #[true, true, true, true, true, true, true, false, true, false, false] rfl rfl (any_of HT_.out (by kernel_rfl)) (fun _ _ _ h => h) (Or.inl ⟨by rfl, ?_⟩) ?_ ?_))
set_option hygiene false in
local macro "sq68_" : tactic => `(tactic| (refine pure_ (i := 7) (N := some 35) (v := ?_) (a' := ?_) #[true, true, true, true, true, true, true, true, true, false, false] rfl rfl (any_of HT_.out (by kernel_rfl)) (fun _ _ _ h => h) (Or.inl ⟨by rfl, ?_⟩) ?_ ?_))
set_option hygiene false in
local macro "sq69_" : tactic => `(tactic| (refine one_ (i := 3) (N := some 32) #[true, true, true, true, false, false, false, false, true, false, false] rfl rfl (one_of HT_.out (by kernel_rfl)) (by decide) (fun K hK => ?_)))
set_option hygiene false in
local macro "sq70_" : tactic => `(tactic| (refine one_ (i := 1) (N := some 30) #[true, true, true, false, false, false, false, false, true, false, false] rfl rfl (one_of HT_.out (by kernel_rfl)) (by decide) (fun K hK => ?_)))
set_option hygiene false in
local macro "sq71_" : tactic => `(tactic| (refine hK.out _ _ ⟨((cell_far (p := ⟨gb143, _, none⟩) NB124_143.out _).trans (((cell_far (p := ⟨gb143, _, none⟩) NB124_143.out _).trans (hHeld.1)))), ((cell_far (p := ⟨gb143, _, none⟩) NB124_143.out _).trans (((cell_far (p := ⟨gb143, _, none⟩) NB124_143.out _).trans (hHeld.2.1)))), ((cell_far (p := ⟨gb143, _, none⟩) NB125_143.out _).trans (((cell_far (p := ⟨gb143, _, none⟩) NB125_143.out _).trans (hHeld.2.2.1)))), ((cell_far (p := ⟨gb143, _, none⟩) NB125_143.out _).trans (((cell_far (p := ⟨gb143, _, none⟩) NB125_143.out _).trans (hHeld.2.2.2))))⟩ (fun hHeld => ?_)))
set_option hygiene false in
local macro "sq72_" : tactic => `(tactic| (refine pure_ (i := 10) (N := some 9) (v := ?_) (a' := ?_) #[true, true, true, true, true, true, true, true, true, true, true] rfl rfl (any_of HT_.out (by kernel_rfl)) (fun _ _ _ h => h) (Or.inl ⟨by rfl, ?_⟩) ?_ ?_))
set_option hygiene false in
local macro "sq73_" : tactic => `(tactic| (exact ⟨by first | rfl | (simp [errW_none, errW_some] <;> rfl) | (simp [*, errW_none, errW_some] <;> rfl), by repeat (first | (with_reducible first | exact HB.out | apply below_alloc | apply pw_below_drewN | apply below_drew1 | refine below_set ?_ GE124.out | refine below_set ?_ GE125.out | refine below_set ?_ GE135.out | refine below_set ?_ GE143.out) | exact HB.out)⟩))

/-! ### laws_FnExactRangeBoth: function 3 -/
def laws_FnExactRangeBoth.f (k : Nat) (a0_0 : ByteArray) (a0_1 : ByteArray) (a1_0 : ByteArray) (a1_1 : ByteArray) : Option (Bool) := (laws_szRange.f a0_0 a0_1 1048576).bind fun t126 => (if t126 < 0 then (some true) else ((laws_szRange.f a1_0 a1_1 t126).bind fun t127 => (if t127 < 0 then (some true) else ((laws_toRange.f a0_0 a0_1).bind fun bt128 => ((laws_toRange.f a1_0 a1_1).bind fun bt130 => ((spec_RangeBoth.f k bt128.1 bt128.2 bt130.1 bt130.2).bind fun bt132 => ((laws_toRange.f a0_0 a0_1).bind fun bt136 => ((laws_toRange.f a1_0 a1_1).bind fun bt138 => ((impl_RangeBoth.f k bt136.1 bt136.2 bt138.1 bt138.2).bind fun bt140 => ((laws_eqRange.f bt140.1 bt140.2.1 bt132.1 bt132.2.1).bind fun t144 => (if t144 = true then (if (bt140.2.2 != bt132.2.2) = true then (some false) else (some true)) else (some false))))))))))))
theorem laws_FnExactRangeBoth.mono : ∀ a0 a1 a2 a3 k, LeO (laws_FnExactRangeBoth.f k a0 a1 a2 a3) (laws_FnExactRangeBoth.f (k + 1) a0 a1 a2 a3) := by
  intro a0 a1 a2 a3 k
  unfold laws_FnExactRangeBoth.f
  repeat' first
      | (with_reducible exact impl_RangeBoth.mono _ _ _ _ _)
      | (with_reducible exact spec_RangeBoth.mono _ _ _ _ _)
      | (with_reducible exact LeO.refl _)
      | (with_reducible exact LeO.none _)
      | (with_reducible refine LeO.ite ?_ ?_)
      | (with_reducible refine LeO.bind ?_ (fun _ => ?_))
      | exact impl_RangeBoth.mono _ _ _ _ _
      | exact spec_RangeBoth.mono _ _ _ _ _
      | exact LeO.none _
      | refine LeO.ite ?_ ?_
      | refine LeO.bind ?_ (fun _ => ?_)
def laws_FnExactRangeBoth.T8 : Bool × List (List Nat × List Nat) := (true, [([], []), ([0], [0]), ([], []), ([2, 1], [2]), ([1, 3, 3], [1, 3]), ([4], [4]), ([5], [5]), ([5], [5]), ([], []), ([8, 6, 4, 0, 1, 2, 3, 4, 5, 6, 8], [6, 8]), ([7, 9, 0, 1, 2, 3, 4, 5, 6, 7, 8, 9], [7])])
def laws_FnExactRangeBoth.B8 : List Nat := [0, 1, 0, 7, 15, 31, 63, 63, 0, 383, 1023]
theorem laws_FnExactRangeBoth.tab8 : rtab .any (opsOf Try.f3 8) = laws_FnExactRangeBoth.T8 := by kernel_rfl
theorem laws_FnExactRangeBoth.bits8 : waitsOk laws_FnExactRangeBoth.T8.2 laws_FnExactRangeBoth.B8 = true := by kernel_rfl
def laws_FnExactRangeBoth.T9 : Bool × List (List Nat × List Nat) := (true, [([], []), ([0], [0]), ([], []), ([2, 1], [2]), ([1, 3, 3], [1, 3]), ([4], [4]), ([5], [5]), ([5], [5]), ([], []), ([8, 6, 4, 0, 1, 2, 3, 4, 5, 6, 8], [6, 8]), ([7, 9, 0, 1, 2, 3, 4, 5, 6, 7, 8, 9], [7])])
def laws_FnExactRangeBoth.B9 : List Nat := [0, 1, 0, 7, 15, 31, 63, 63, 0, 383, 1023]
theorem laws_FnExactRangeBoth.tab9 : rtab .any (opsOf Try.f3 9) = laws_FnExactRangeBoth.T9 := by kernel_rfl
theorem laws_FnExactRangeBoth.bits9 : waitsOk laws_FnExactRangeBoth.T9.2 laws_FnExactRangeBoth.B9 = true := by kernel_rfl
set_option maxHeartbeats 8000000 in
set_option maxRecDepth 100000 in
theorem laws_FnExactRangeBoth.calls (k : Nat) (a0_0 : ByteArray) (a0_1 : ByteArray) (a1_0 : ByteArray) (a1_1 : ByteArray) (r : Bool) (w : World) (h : laws_FnExactRangeBoth.f k a0_0 a0_1 a1_0 a1_1 = some r) :
    Calls Try.prog 3 #[.agg #[.string a0_0, .string a0_1], .agg #[.string a1_0, .string a1_1]] w fun e w' => e = .returned (.bool r) ∧ Below w.heap.size w w' := by
  have hu23 := Try.underlying23
  have hu25 := Try.underlying25
  have HB := Aside0.mk (Below.refl w.heap.size w)
  have H : ((laws_szRange.f a0_0 a0_1 1048576).bind fun t126 => (if t126 < 0 then (some true) else ((laws_szRange.f a1_0 a1_1 t126).bind fun t127 => (if t127 < 0 then (some true) else ((laws_toRange.f a0_0 a0_1).bind fun bt128 => ((laws_toRange.f a1_0 a1_1).bind fun bt130 => ((spec_RangeBoth.f k bt128.1 bt128.2 bt130.1 bt130.2).bind fun bt132 => ((laws_toRange.f a0_0 a0_1).bind fun bt136 => ((laws_toRange.f a1_0 a1_1).bind fun bt138 => ((impl_RangeBoth.f k bt136.1 bt136.2 bt138.1 bt138.2).bind fun bt140 => ((laws_eqRange.f bt140.1 bt140.2.1 bt132.1 bt132.2.1).bind fun t144 => (if t144 = true then (if (bt140.2.2 != bt132.2.2) = true then (some false) else (some true)) else (some false))))))))))))) = some r := h
  clear h
  replace H := Option.bind_eq_some_iff.mp H
  obtain ⟨t126, A30, H⟩ := H
  replace H : (if t126 < 0 then (some true) else ((laws_szRange.f a1_0 a1_1 t126).bind fun t127 => (if t127 < 0 then (some true) else ((laws_toRange.f a0_0 a0_1).bind fun bt128 => ((laws_toRange.f a1_0 a1_1).bind fun bt130 => ((spec_RangeBoth.f k bt128.1 bt128.2 bt130.1 bt130.2).bind fun bt132 => ((laws_toRange.f a0_0 a0_1).bind fun bt136 => ((laws_toRange.f a1_0 a1_1).bind fun bt138 => ((impl_RangeBoth.f k bt136.1 bt136.2 bt138.1 bt138.2).bind fun bt140 => ((laws_eqRange.f bt140.1 bt140.2.1 bt132.1 bt132.2.1).bind fun t144 => (if t144 = true then (if (bt140.2.2 != bt132.2.2) = true then (some false) else (some true)) else (some false)))))))))))) = some r := H
  have A3 := Aside0.mk A30
  clear A30
  by_cases c4 : t126 < 0
  · rw [if_pos c4] at H
    have c4b0 : decide (t126 < 0) = true := decide_eq_true c4
    clear c4
    obtain rfl := Option.some.inj H
    go_enter Try.func3, Try.ntmps3
    go_wp2_with (first | ((with_reducible refine gate_dst (N := 2) rfl ?_); refine box_event ?hg (N := 2) ?hd (cs := #[.string a0_0, .string a0_1]) (t := 23) ?hr ?_; (case hd => rfl); (case hg => rfl); (case hr => first | (go_simp; done) | (go_simp; rfl)); intro gb124 hg w5 hbox hb; have n0_ := Aside0.mk (below_step (by repeat (first | (with_reducible first | exact HB.out | apply below_alloc | apply pw_below_drewN | apply below_drew1) | exact HB.out)) hb); have n1_ := Aside0.mk (hbox); have n2_ := Aside0.mk ((by rw [hg]; exact (below_size (by repeat (first | (with_reducible first | exact HB.out | apply below_alloc | apply pw_below_drewN | apply below_drew1) | exact HB.out))) : w.heap.size ≤ gb124)); have n3_ := Aside0.mk ((by rw [hg]; exact (below_size (by repeat (first | (with_reducible first | exact HB.out | apply below_alloc | apply pw_below_drewN | apply below_drew1) | exact HB.out))) : w.heap.size ≤ gb124)); clear HB; have HB := n0_; have BK124 := n1_; have GW124 := n2_; have GE124 := n3_; clear n0_ n1_ n2_ n3_; clear hb hbox hg) | ((with_reducible refine gate_dst (N := 3) rfl ?_); refine box_event ?hg (N := 3) ?hd (cs := #[.string a1_0, .string a1_1]) (t := 23) ?hr ?_; (case hd => rfl); (case hg => rfl); (case hr => first | (go_simp; done) | (go_simp; rfl)); intro gb125 hg w6 hbox hb; have n0_ := Aside0.mk (blk_below (g := gb124) (o := .cells #[.string a0_0, .string a0_1] 23 (0, 0)) (by (with_reducible repeat (first | refine blk_drewN ?_ _ | refine blk_drew ?_ | refine blk_alloc ?_ _)); exact BK124.out) hb); have n1_ := Aside0.mk (below_step (by repeat (first | (with_reducible first | exact HB.out | apply below_alloc | apply pw_below_drewN | apply below_drew1 | refine below_set ?_ GE124.out) | exact HB.out)) hb); have n2_ := Aside0.mk (hbox); have n3_ := Aside0.mk ((by rw [hg]; exact (below_size (by repeat (first | (with_reducible first | exact HB.out | apply below_alloc | apply pw_below_drewN | apply below_drew1 | refine below_set ?_ GE124.out) | exact HB.out))) : w.heap.size ≤ gb125)); have n4_ := Aside0.mk ((by rw [hg]; exact (below_size (by repeat (first | (with_reducible first | exact HB.out | apply below_alloc | apply pw_below_drewN | apply below_drew1 | refine below_set ?_ GE124.out) | exact HB.out))) : w.heap.size ≤ gb125)); have n5_ := Aside0.mk ((by rw [hg]; exact Nat.ne_of_lt (blk_lt (g := gb124) (o := .cells #[.string a0_0, .string a0_1] 23 (0, 0)) (by (with_reducible repeat (first | refine blk_drewN ?_ _ | refine blk_drew ?_ | refine blk_alloc ?_ _)); exact BK124.out)) : gb124 ≠ gb125)); have n6_ := Aside0.mk ((by rw [hg]; exact Nat.ne_of_gt (blk_lt (g := gb124) (o := .cells #[.string a0_0, .string a0_1] 23 (0, 0)) (by (with_reducible repeat (first | refine blk_drewN ?_ _ | refine blk_drew ?_ | refine blk_alloc ?_ _)); exact BK124.out)) : gb125 ≠ gb124)); clear BK124; clear HB; have BK124 := n0_; have HB := n1_; have BK125 := n2_; have GW125 := n3_; have GE125 := n4_; have NB124_125 := n5_; have NB125_124 := n6_; clear n0_ n1_ n2_ n3_ n4_ n5_ n6_; clear hb hbox hg; have hnb7 := NB124_125.out; have hnc7 := NB125_124.out; have hcz8_0 : w6.cell? ⟨gb124, 0, none⟩ = some (.string a0_0) := (blk_cell BK124.out 0).trans rfl; have hcz8_1 : w6.cell? ⟨gb124, 1, none⟩ = some (.string a0_1) := (blk_cell BK124.out 1).trans rfl; have hfz8_0 := blk_frozen BK124.out 0; have hfz8_1 := blk_frozen BK124.out 1) | ((with_reducible refine gate_callee (f := 15) rfl ?_); refine goesL_ (some 12) rfl rfl Try.func15 (by kernel_rfl) rfl #[.agg #[.string a0_0, .string a0_1], .int .i64 1048576] rfl (by (try simp only [List.map_toArray, List.map_cons, List.map_nil]); first | done | rfl | (simp only [List.length_drop, List.length_take]; rfl)) ?_; (with_reducible refine (laws_szRange.calls a0_0 a0_1 1048576 t126 _ A3.out).mono ?_); rintro e w9 ⟨rfl, hb⟩; refine ⟨_, rfl, ?_⟩; have n0_ := Aside0.mk (blk_below (g := gb124) (o := .cells #[.string a0_0, .string a0_1] 23 (0, 0)) (by (with_reducible repeat (first | refine blk_drewN ?_ _ | refine blk_drew ?_ | refine blk_alloc ?_ _)); exact BK124.out) hb); have n1_ := Aside0.mk (blk_below (g := gb125) (o := .cells #[.string a1_0, .string a1_1] 23 (0, 0)) (by (with_reducible repeat (first | refine blk_drewN ?_ _ | refine blk_drew ?_ | refine blk_alloc ?_ _)); exact BK125.out) hb); have n2_ := Aside0.mk (below_step (by repeat (first | (with_reducible first | exact HB.out | apply below_alloc | apply pw_below_drewN | apply below_drew1 | refine below_set ?_ GE124.out | refine below_set ?_ GE125.out) | exact HB.out)) hb); clear BK124; clear BK125; clear HB; have BK124 := n0_; have BK125 := n1_; have HB := n2_; clear n0_ n1_ n2_; (try clear hb); (try clear hb2); (try clear hk); (try clear hi)))
    go_ret
    sq0_
  · rw [if_neg c4] at H
    have c4b0 : decide (t126 < 0) = false := decide_eq_false c4
    clear c4
    replace H := Option.bind_eq_some_iff.mp H
    obtain ⟨t127, A100, H⟩ := H
    replace H : (if t127 < 0 then (some true) else ((laws_toRange.f a0_0 a0_1).bind fun bt128 => ((laws_toRange.f a1_0 a1_1).bind fun bt130 => ((spec_RangeBoth.f k bt128.1 bt128.2 bt130.1 bt130.2).bind fun bt132 => ((laws_toRange.f a0_0 a0_1).bind fun bt136 => ((laws_toRange.f a1_0 a1_1).bind fun bt138 => ((impl_RangeBoth.f k bt136.1 bt136.2 bt138.1 bt138.2).bind fun bt140 => ((laws_eqRange.f bt140.1 bt140.2.1 bt132.1 bt132.2.1).bind fun t144 => (if t144 = true then (if (bt140.2.2 != bt132.2.2) = true then (some false) else (some true)) else (some false)))))))))) = some r := H
    have A10 := Aside0.mk A100
    clear A100
    by_cases c11 : t127 < 0
    · rw [if_pos c11] at H
      have c11b0 : decide (t127 < 0) = true := decide_eq_true c11
      clear c11
      obtain rfl := Option.some.inj H
      go_enter Try.func3, Try.ntmps3
      go_wp2_with (first | ((with_reducible refine gate_dst (N := 2) rfl ?_); refine box_event ?hg (N := 2) ?hd (cs := #[.string a0_0, .string a0_1]) (t := 23) ?hr ?_; (case hd => rfl); (case hg => rfl); (case hr => first | (go_simp; done) | (go_simp; rfl)); intro gb124 hg w12 hbox hb; have n0_ := Aside0.mk (below_step (by repeat (first | (with_reducible first | exact HB.out | apply below_alloc | apply pw_below_drewN | apply below_drew1) | exact HB.out)) hb); have n1_ := Aside0.mk (hbox); have n2_ := Aside0.mk ((by rw [hg]; exact (below_size (by repeat (first | (with_reducible first | exact HB.out | apply below_alloc | apply pw_below_drewN | apply below_drew1) | exact HB.out))) : w.heap.size ≤ gb124)); have n3_ := Aside0.mk ((by rw [hg]; exact (below_size (by repeat (first | (with_reducible first | exact HB.out | apply below_alloc | apply pw_below_drewN | apply below_drew1) | exact HB.out))) : w.heap.size ≤ gb124)); clear HB; have HB := n0_; have BK124 := n1_; have GW124 := n2_; have GE124 := n3_; clear n0_ n1_ n2_ n3_; clear hb hbox hg) | ((with_reducible refine gate_dst (N := 3) rfl ?_); refine box_event ?hg (N := 3) ?hd (cs := #[.string a1_0, .string a1_1]) (t := 23) ?hr ?_; (case hd => rfl); (case hg => rfl); (case hr => first | (go_simp; done) | (go_simp; rfl)); intro gb125 hg w13 hbox hb; have n0_ := Aside0.mk (blk_below (g := gb124) (o := .cells #[.string a0_0, .string a0_1] 23 (0, 0)) (by (with_reducible repeat (first | refine blk_drewN ?_ _ | refine blk_drew ?_ | refine blk_alloc ?_ _)); exact BK124.out) hb); have n1_ := Aside0.mk (below_step (by repeat (first | (with_reducible first | exact HB.out | apply below_alloc | apply pw_below_drewN | apply below_drew1 | refine below_set ?_ GE124.out) | exact HB.out)) hb); have n2_ := Aside0.mk (hbox); have n3_ := Aside0.mk ((by rw [hg]; exact (below_size (by repeat (first | (with_reducible first | exact HB.out | apply below_alloc | apply pw_below_drewN | apply below_drew1 | refine below_set ?_ GE124.out) | exact HB.out))) : w.heap.size ≤ gb125)); have n4_ := Aside0.mk ((by rw [hg]; exact (below_size (by repeat (first | (with_reducible first | exact HB.out | apply below_alloc | apply pw_below_drewN | apply below_drew1 | refine below_set ?_ GE124.out) | exact HB.out))) : w.heap.size ≤ gb125)); have n5_ := Aside0.mk ((by rw [hg]; exact Nat.ne_of_lt (blk_lt (g := gb124) (o := .cells #[.string a0_0, .string a0_1] 23 (0, 0)) (by (with_reducible repeat (first | refine blk_drewN ?_ _ | refine blk_drew ?_ | refine blk_alloc ?_ _)); exact BK124.out)) : gb124 ≠ gb125)); have n6_ := Aside0.mk ((by rw [hg]; exact Nat.ne_of_gt (blk_lt (g := gb124) (o := .cells #[.string a0_0, .string a0_1] 23 (0, 0)) (by (with_reducible repeat (first | refine blk_drewN ?_ _ | refine blk_drew ?_ | refine blk_alloc ?_ _)); exact BK124.out)) : gb125 ≠ gb124)); clear BK124; clear HB; have BK124 := n0_; have HB := n1_; have BK125 := n2_; have GW125 := n3_; have GE125 := n4_; have NB124_125 := n5_; have NB125_124 := n6_; clear n0_ n1_ n2_ n3_ n4_ n5_ n6_; clear hb hbox hg; have hnb14 := NB124_125.out; have hnc14 := NB125_124.out; have hcz15_0 : w13.cell? ⟨gb124, 0, none⟩ = some (.string a0_0) := (blk_cell BK124.out 0).trans rfl; have hcz15_1 : w13.cell? ⟨gb124, 1, none⟩ = some (.string a0_1) := (blk_cell BK124.out 1).trans rfl; have hfz15_0 := blk_frozen BK124.out 0; have hfz15_1 := blk_frozen BK124.out 1) | ((with_reducible refine gate_callee (f := 15) rfl ?_); refine goesL_ (some 12) rfl rfl Try.func15 (by kernel_rfl) rfl #[.agg #[.string a0_0, .string a0_1], .int .i64 1048576] rfl (by (try simp only [List.map_toArray, List.map_cons, List.map_nil]); first | done | rfl | (simp only [List.length_drop, List.length_take]; rfl)) ?_; (with_reducible refine (laws_szRange.calls a0_0 a0_1 1048576 t126 _ A3.out).mono ?_); rintro e w16 ⟨rfl, hb⟩; refine ⟨_, rfl, ?_⟩; have n0_ := Aside0.mk (blk_below (g := gb124) (o := .cells #[.string a0_0, .string a0_1] 23 (0, 0)) (by (with_reducible repeat (first | refine blk_drewN ?_ _ | refine blk_drew ?_ | refine blk_alloc ?_ _)); exact BK124.out) hb); have n1_ := Aside0.mk (blk_below (g := gb125) (o := .cells #[.string a1_0, .string a1_1] 23 (0, 0)) (by (with_reducible repeat (first | refine blk_drewN ?_ _ | refine blk_drew ?_ | refine blk_alloc ?_ _)); exact BK125.out) hb); have n2_ := Aside0.mk (below_step (by repeat (first | (with_reducible first | exact HB.out | apply below_alloc | apply pw_below_drewN | apply below_drew1 | refine below_set ?_ GE124.out | refine below_set ?_ GE125.out) | exact HB.out)) hb); clear BK124; clear BK125; clear HB; have BK124 := n0_; have BK125 := n1_; have HB := n2_; clear n0_ n1_ n2_; (try clear hb); (try clear hb2); (try clear hk); (try clear hi); have hcz17_0 : w16.cell? ⟨gb125, 0, none⟩ = some (.string a1_0) := (blk_cell BK125.out 0).trans rfl; have hcz17_1 : w16.cell? ⟨gb125, 1, none⟩ = some (.string a1_1) := (blk_cell BK125.out 1).trans rfl; have hfz17_0 := blk_frozen BK125.out 0; have hfz17_1 := blk_frozen BK125.out 1) | ((with_reducible refine gate_callee (f := 15) rfl ?_); refine goesL_ (some 17) rfl rfl Try.func15 (by kernel_rfl) rfl #[.agg #[.string a1_0, .string a1_1], .int .i64 t126] rfl (by (try simp only [List.map_toArray, List.map_cons, List.map_nil]); first | done | rfl | (simp only [List.length_drop, List.length_take]; rfl)) ?_; (with_reducible refine (laws_szRange.calls a1_0 a1_1 t126 t127 _ A10.out).mono ?_); rintro e w18 ⟨rfl, hb⟩; refine ⟨_, rfl, ?_⟩; have n0_ := Aside0.mk (blk_below (g := gb124) (o := .cells #[.string a0_0, .string a0_1] 23 (0, 0)) (by (with_reducible repeat (first | refine blk_drewN ?_ _ | refine blk_drew ?_ | refine blk_alloc ?_ _)); exact BK124.out) hb); have n1_ := Aside0.mk (blk_below (g := gb125) (o := .cells #[.string a1_0, .string a1_1] 23 (0, 0)) (by (with_reducible repeat (first | refine blk_drewN ?_ _ | refine blk_drew ?_ | refine blk_alloc ?_ _)); exact BK125.out) hb); have n2_ := Aside0.mk (below_step (by repeat (first | (with_reducible first | exact HB.out | apply below_alloc | apply pw_below_drewN | apply below_drew1 | refine below_set ?_ GE124.out | refine below_set ?_ GE125.out) | exact HB.out)) hb); clear BK124; clear BK125; clear HB; have BK124 := n0_; have BK125 := n1_; have HB := n2_; clear n0_ n1_ n2_; (try clear hb); (try clear hb2); (try clear hk); (try clear hi)))
      go_ret
      sq0_
    · rw [if_neg c11] at H
      have c11b0 : decide (t127 < 0) = false := decide_eq_false c11
      clear c11
      replace H := Option.bind_eq_some_iff.mp H
      obtain ⟨⟨t128, t129⟩, A190, H⟩ := H
      replace H : ((laws_toRange.f a1_0 a1_1).bind fun bt130 => ((spec_RangeBoth.f k t128 t129 bt130.1 bt130.2).bind fun bt132 => ((laws_toRange.f a0_0 a0_1).bind fun bt136 => ((laws_toRange.f a1_0 a1_1).bind fun bt138 => ((impl_RangeBoth.f k bt136.1 bt136.2 bt138.1 bt138.2).bind fun bt140 => ((laws_eqRange.f bt140.1 bt140.2.1 bt132.1 bt132.2.1).bind fun t144 => (if t144 = true then (if (bt140.2.2 != bt132.2.2) = true then (some false) else (some true)) else (some false)))))))) = some r := H
      have A19 := Aside0.mk A190
      clear A190
      replace H := Option.bind_eq_some_iff.mp H
      obtain ⟨⟨t130, t131⟩, A200, H⟩ := H
      replace H : ((spec_RangeBoth.f k t128 t129 t130 t131).bind fun bt132 => ((laws_toRange.f a0_0 a0_1).bind fun bt136 => ((laws_toRange.f a1_0 a1_1).bind fun bt138 => ((impl_RangeBoth.f k bt136.1 bt136.2 bt138.1 bt138.2).bind fun bt140 => ((laws_eqRange.f bt140.1 bt140.2.1 bt132.1 bt132.2.1).bind fun t144 => (if t144 = true then (if (bt140.2.2 != bt132.2.2) = true then (some false) else (some true)) else (some false))))))) = some r := H
      have A20 := Aside0.mk A200
      clear A200
      replace H := Option.bind_eq_some_iff.mp H
      obtain ⟨⟨t132, t133, t134⟩, A210, H⟩ := H
      replace H : ((laws_toRange.f a0_0 a0_1).bind fun bt136 => ((laws_toRange.f a1_0 a1_1).bind fun bt138 => ((impl_RangeBoth.f k bt136.1 bt136.2 bt138.1 bt138.2).bind fun bt140 => ((laws_eqRange.f bt140.1 bt140.2.1 t132 t133).bind fun t144 => (if t144 = true then (if (bt140.2.2 != t134) = true then (some false) else (some true)) else (some false)))))) = some r := H
      have A21 := Aside0.mk A210
      clear A210
      replace H := Option.bind_eq_some_iff.mp H
      obtain ⟨⟨t136, t137⟩, A220, H⟩ := H
      replace H : ((laws_toRange.f a1_0 a1_1).bind fun bt138 => ((impl_RangeBoth.f k t136 t137 bt138.1 bt138.2).bind fun bt140 => ((laws_eqRange.f bt140.1 bt140.2.1 t132 t133).bind fun t144 => (if t144 = true then (if (bt140.2.2 != t134) = true then (some false) else (some true)) else (some false))))) = some r := H
      have A22 := Aside0.mk A220
      clear A220
      replace H := Option.bind_eq_some_iff.mp H
      obtain ⟨⟨t138, t139⟩, A230, H⟩ := H
      replace H : ((impl_RangeBoth.f k t136 t137 t138 t139).bind fun bt140 => ((laws_eqRange.f bt140.1 bt140.2.1 t132 t133).bind fun t144 => (if t144 = true then (if (bt140.2.2 != t134) = true then (some false) else (some true)) else (some false)))) = some r := H
      have A23 := Aside0.mk A230
      clear A230
      replace H := Option.bind_eq_some_iff.mp H
      obtain ⟨⟨t140, t141, t142⟩, A240, H⟩ := H
      replace H : ((laws_eqRange.f t140 t141 t132 t133).bind fun t144 => (if t144 = true then (if (t142 != t134) = true then (some false) else (some true)) else (some false))) = some r := H
      have A24 := Aside0.mk A240
      clear A240
      replace H := Option.bind_eq_some_iff.mp H
      obtain ⟨t144, A250, H⟩ := H
      replace H : (if t144 = true then (if (t142 != t134) = true then (some false) else (some true)) else (some false)) = some r := H
      have A25 := Aside0.mk A250
      clear A250
      by_cases c26 : t144 = true
      · subst c26
        have H1 : (if (t142 != t134) = true then (some false) else (some true)) = some r := by rw [if_pos rfl] at H; exact H
        clear H
        have H := H1
        clear H1
        by_cases c27 : (t142 != t134) = true
        · rw [if_pos c27] at H
          have c27b0 : (t142 != t134) = true := c27
          (try (have c27b1 : decide (t142 = t134) = false := by simpa using c27))
          (try (have c27b2 : (t142 == t134) = false := by simpa using c27))
          (try (have c27b3 : ¬ (t142 = t134) := by simpa using c27))
          clear c27
          obtain rfl := Option.some.inj H
          go_enter Try.func3, Try.ntmps3
          try go_wp2_with (first | ((with_reducible refine gate_dst (N := 2) rfl ?_); refine box_event ?hg (N := 2) ?hd (cs := #[.string a0_0, .string a0_1]) (t := 23) ?hr ?_; (case hd => rfl); (case hg => rfl); (case hr => first | (go_simp; done) | (go_simp; rfl)); intro gb124 hg w28 hbox hb; have n0_ := Aside0.mk (below_step (by repeat (first | (with_reducible first | exact HB.out | apply below_alloc | apply pw_below_drewN | apply below_drew1) | exact HB.out)) hb); have n1_ := Aside0.mk (hbox); have n2_ := Aside0.mk ((by rw [hg]; exact (below_size (by repeat (first | (with_reducible first | exact HB.out | apply below_alloc | apply pw_below_drewN | apply below_drew1) | exact HB.out))) : w.heap.size ≤ gb124)); have n3_ := Aside0.mk ((by rw [hg]; exact (below_size (by repeat (first | (with_reducible first | exact HB.out | apply below_alloc | apply pw_below_drewN | apply below_drew1) | exact HB.out))) : w.heap.size ≤ gb124)); clear HB; have HB := n0_; have BK124 := n1_; have GW124 := n2_; have GE124 := n3_; clear n0_ n1_ n2_ n3_; clear hb hbox hg) | ((with_reducible refine gate_dst (N := 3) rfl ?_); refine box_event ?hg (N := 3) ?hd (cs := #[.string a1_0, .string a1_1]) (t := 23) ?hr ?_; (case hd => rfl); (case hg => rfl); (case hr => first | (go_simp; done) | (go_simp; rfl)); intro gb125 hg w29 hbox hb; have n0_ := Aside0.mk (blk_below (g := gb124) (o := .cells #[.string a0_0, .string a0_1] 23 (0, 0)) (by (with_reducible repeat (first | refine blk_drewN ?_ _ | refine blk_drew ?_ | refine blk_alloc ?_ _)); exact BK124.out) hb); have n1_ := Aside0.mk (below_step (by repeat (first | (with_reducible first | exact HB.out | apply below_alloc | apply pw_below_drewN | apply below_drew1 | refine below_set ?_ GE124.out) | exact HB.out)) hb); have n2_ := Aside0.mk (hbox); have n3_ := Aside0.mk ((by rw [hg]; exact (below_size (by repeat (first | (with_reducible first | exact HB.out | apply below_alloc | apply pw_below_drewN | apply below_drew1 | refine below_set ?_ GE124.out) | exact HB.out))) : w.heap.size ≤ gb125)); have n4_ := Aside0.mk ((by rw [hg]; exact (below_size (by repeat (first | (with_reducible first | exact HB.out | apply below_alloc | apply pw_below_drewN | apply below_drew1 | refine below_set ?_ GE124.out) | exact HB.out))) : w.heap.size ≤ gb125)); have n5_ := Aside0.mk ((by rw [hg]; exact Nat.ne_of_lt (blk_lt (g := gb124) (o := .cells #[.string a0_0, .string a0_1] 23 (0, 0)) (by (with_reducible repeat (first | refine blk_drewN ?_ _ | refine blk_drew ?_ | refine blk_alloc ?_ _)); exact BK124.out)) : gb124 ≠ gb125)); have n6_ := Aside0.mk ((by rw [hg]; exact Nat.ne_of_gt (blk_lt (g := gb124) (o := .cells #[.string a0_0, .string a0_1] 23 (0, 0)) (by (with_reducible repeat (first | refine blk_drewN ?_ _ | refine blk_drew ?_ | refine blk_alloc ?_ _)); exact BK124.out)) : gb125 ≠ gb124)); clear BK124; clear HB; have BK124 := n0_; have HB := n1_; have BK125 := n2_; have GW125 := n3_; have GE125 := n4_; have NB124_125 := n5_; have NB125_124 := n6_; clear n0_ n1_ n2_ n3_ n4_ n5_ n6_; clear hb hbox hg; have hnb30 := NB124_125.out; have hnc30 := NB125_124.out; have hcz31_0 : w29.cell? ⟨gb124, 0, none⟩ = some (.string a0_0) := (blk_cell BK124.out 0).trans rfl; have hcz31_1 : w29.cell? ⟨gb124, 1, none⟩ = some (.string a0_1) := (blk_cell BK124.out 1).trans rfl; have hfz31_0 := blk_frozen BK124.out 0; have hfz31_1 := blk_frozen BK124.out 1) | ((with_reducible refine gate_callee (f := 15) rfl ?_); refine goesL_ (some 12) rfl rfl Try.func15 (by kernel_rfl) rfl #[.agg #[.string a0_0, .string a0_1], .int .i64 1048576] rfl (by (try simp only [List.map_toArray, List.map_cons, List.map_nil]); first | done | rfl | (simp only [List.length_drop, List.length_take]; rfl)) ?_; (with_reducible refine (laws_szRange.calls a0_0 a0_1 1048576 t126 _ A3.out).mono ?_); rintro e w32 ⟨rfl, hb⟩; refine ⟨_, rfl, ?_⟩; have n0_ := Aside0.mk (blk_below (g := gb124) (o := .cells #[.string a0_0, .string a0_1] 23 (0, 0)) (by (with_reducible repeat (first | refine blk_drewN ?_ _ | refine blk_drew ?_ | refine blk_alloc ?_ _)); exact BK124.out) hb); have n1_ := Aside0.mk (blk_below (g := gb125) (o := .cells #[.string a1_0, .string a1_1] 23 (0, 0)) (by (with_reducible repeat (first | refine blk_drewN ?_ _ | refine blk_drew ?_ | refine blk_alloc ?_ _)); exact BK125.out) hb); have n2_ := Aside0.mk (below_step (by repeat (first | (with_reducible first | exact HB.out | apply below_alloc | apply pw_below_drewN | apply below_drew1 | refine below_set ?_ GE124.out | refine below_set ?_ GE125.out) | exact HB.out)) hb); clear BK124; clear BK125; clear HB; have BK124 := n0_; have BK125 := n1_; have HB := n2_; clear n0_ n1_ n2_; (try clear hb); (try clear hb2); (try clear hk); (try clear hi); have hcz33_0 : w32.cell? ⟨gb125, 0, none⟩ = some (.string a1_0) := (blk_cell BK125.out 0).trans rfl; have hcz33_1 : w32.cell? ⟨gb125, 1, none⟩ = some (.string a1_1) := (blk_cell BK125.out 1).trans rfl; have hfz33_0 := blk_frozen BK125.out 0; have hfz33_1 := blk_frozen BK125.out 1) | ((with_reducible refine gate_callee (f := 15) rfl ?_); refine goesL_ (some 17) rfl rfl Try.func15 (by kernel_rfl) rfl #[.agg #[.string a1_0, .string a1_1], .int .i64 t126] rfl (by (try simp only [List.map_toArray, List.map_cons, List.map_nil]); first | done | rfl | (simp only [List.length_drop, List.length_take]; rfl)) ?_; (with_reducible refine (laws_szRange.calls a1_0 a1_1 t126 t127 _ A10.out).mono ?_); rintro e w34 ⟨rfl, hb⟩; refine ⟨_, rfl, ?_⟩; have n0_ := Aside0.mk (blk_below (g := gb124) (o := .cells #[.string a0_0, .string a0_1] 23 (0, 0)) (by (with_reducible repeat (first | refine blk_drewN ?_ _ | refine blk_drew ?_ | refine blk_alloc ?_ _)); exact BK124.out) hb); have n1_ := Aside0.mk (blk_below (g := gb125) (o := .cells #[.string a1_0, .string a1_1] 23 (0, 0)) (by (with_reducible repeat (first | refine blk_drewN ?_ _ | refine blk_drew ?_ | refine blk_alloc ?_ _)); exact BK125.out) hb); have n2_ := Aside0.mk (below_step (by repeat (first | (with_reducible first | exact HB.out | apply below_alloc | apply pw_below_drewN | apply below_drew1 | refine below_set ?_ GE124.out | refine below_set ?_ GE125.out) | exact HB.out)) hb); clear BK124; clear BK125; clear HB; have BK124 := n0_; have BK125 := n1_; have HB := n2_; clear n0_ n1_ n2_; (try clear hb); (try clear hb2); (try clear hk); (try clear hi)))
          have n0_ := Aside0.mk (blk_drew BK124.out)
          have n1_ := Aside0.mk (blk_drew BK125.out)
          have n2_ := Aside0.mk (below_drew1 HB.out)
          clear BK124
          clear BK125
          clear HB
          have BK124 := n0_
          have BK125 := n1_
          have HB := n2_
          clear n0_ n1_ n2_
          sq1_
          generalize w34.drew = w35 at BK124 BK125 HB hHeld ⊢
          sq2_
          rotate_left
          · rintro w' ⟨s0, s1, s2, s3⟩
            go_simp
            with_reducible rfl
          rotate_left
          · sq3_
            rfl
          sq4_
          rotate_left
          · rintro w' ⟨s0, s1, s2, s3⟩
            go_simp
            with_reducible rfl
          rotate_left
          · sq3_
            rfl
          sq5_
          rotate_left
          · intro hCont
            sq6_
            · skip
              sq7_
              with_reducible refine (laws_toRange.calls a0_0 a0_1 t128 t129 _ A19.out).mono ?_
              rintro e w36 ⟨rfl, hb⟩
              refine ⟨_, rfl, ?_⟩
              sq8_
              sq9_
              sq10_
              clear BK124
              clear BK125
              clear HB
              have BK124 := n0_
              have BK125 := n1_
              have HB := n2_
              clear n0_ n1_ n2_
              (try clear hb)
              (try clear hb2)
              (try clear hk)
              (try clear hi)
              sq11_
              clear hK K
              refine norm_ (a' := ?_) ?_ ?_
              rotate_left
              · show Act.put _ (some 22) _ = _
                sq3_
                rfl
              sq12_
              · skip
                sq13_
                with_reducible refine (laws_toRange.calls a1_0 a1_1 t130 t131 _ A20.out).mono ?_
                rintro e w37 ⟨rfl, hb⟩
                refine ⟨_, rfl, ?_⟩
                sq8_
                sq9_
                sq10_
                clear BK124
                clear BK125
                clear HB
                have BK124 := n0_
                have BK125 := n1_
                have HB := n2_
                clear n0_ n1_ n2_
                (try clear hb)
                (try clear hb2)
                (try clear hk)
                (try clear hi)
                sq11_
                clear hK K
                refine norm_ (a' := ?_) ?_ ?_
                rotate_left
                · show Act.put _ (some 24) _ = _
                  sq3_
                  rfl
                sq14_
                · skip
                  sq15_
                  with_reducible refine (spec_RangeBoth.calls k t128 t129 t130 t131 t132 t133 t134 _ A21.out).mono ?_
                  rintro e w38 ⟨rfl, hb⟩
                  refine ⟨_, rfl, ?_⟩
                  sq8_
                  sq9_
                  sq10_
                  clear BK124
                  clear BK125
                  clear HB
                  have BK124 := n0_
                  have BK125 := n1_
                  have HB := n2_
                  clear n0_ n1_ n2_
                  (try clear hb)
                  (try clear hb2)
                  (try clear hk)
                  (try clear hi)
                  sq11_
                  clear hK K
                  refine norm_ (a' := ?_) ?_ ?_
                  rotate_left
                  · show Act.put _ (some 25) _ = _
                    sq3_
                    rfl
                  sq16_
                  rotate_left
                  · intro w'
                    go_simp
                    with_reducible rfl
                  rotate_left
                  · sq3_
                    rfl
                  sq17_
                  rotate_left
                  · intro w'
                    go_simp
                    with_reducible rfl
                  rotate_left
                  · sq3_
                    rfl
                  sq18_
                  rotate_left
                  · intro w'
                    go_simp
                    with_reducible rfl
                  rotate_left
                  · sq3_
                    rfl
                  sq19_
                  sq20_
                  intro gb135 hg w39 hbox hb
                  sq8_
                  sq9_
                  sq10_
                  have n3_ := Aside0.mk (hbox)
                  sq21_
                  sq22_
                  sq23_
                  sq24_
                  sq25_
                  sq26_
                  clear BK124
                  clear BK125
                  clear HB
                  have BK124 := n0_
                  have BK125 := n1_
                  have HB := n2_
                  have BK135 := n3_
                  have GW135 := n4_
                  have GE135 := n5_
                  have NB124_135 := n6_
                  have NB135_124 := n7_
                  have NB125_135 := n8_
                  have NB135_125 := n9_
                  clear n0_ n1_ n2_ n3_ n4_ n5_ n6_ n7_ n8_ n9_
                  clear hb hbox hg
                  sq11_
                  clear hK K
                  refine norm_ (a' := ?_) ?_ ?_
                  rotate_left
                  · show Act.put _ (some 6) _ = _
                    sq3_
                    rfl
                  sq27_
                · skip
                  sq20_
                  intro gb135 hg w38 hbox hb
                  sq8_
                  sq9_
                  sq10_
                  have n3_ := Aside0.mk (hbox)
                  sq21_
                  sq22_
                  sq23_
                  sq24_
                  sq25_
                  sq26_
                  clear BK124
                  clear BK125
                  clear HB
                  have BK124 := n0_
                  have BK125 := n1_
                  have HB := n2_
                  have BK135 := n3_
                  have GW135 := n4_
                  have GE135 := n5_
                  have NB124_135 := n6_
                  have NB135_124 := n7_
                  have NB125_135 := n8_
                  have NB135_125 := n9_
                  clear n0_ n1_ n2_ n3_ n4_ n5_ n6_ n7_ n8_ n9_
                  clear hb hbox hg
                  sq11_
                  clear hK K
                  refine norm_ (a' := ?_) ?_ ?_
                  rotate_left
                  · show Act.put _ (some 6) _ = _
                    sq3_
                    rfl
                  sq28_
                  sq15_
                  with_reducible refine (spec_RangeBoth.calls k t128 t129 t130 t131 t132 t133 t134 _ A21.out).mono ?_
                  rintro e w39 ⟨rfl, hb⟩
                  refine ⟨_, rfl, ?_⟩
                  sq8_
                  sq9_
                  sq29_
                  sq30_
                  clear BK124
                  clear BK125
                  clear BK135
                  clear HB
                  have BK124 := n0_
                  have BK125 := n1_
                  have BK135 := n2_
                  have HB := n3_
                  clear n0_ n1_ n2_ n3_
                  (try clear hb)
                  (try clear hb2)
                  (try clear hk)
                  (try clear hi)
                  sq11_
                  clear hK K
                  refine norm_ (a' := ?_) ?_ ?_
                  rotate_left
                  · show Act.put _ (some 25) _ = _
                    sq3_
                    rfl
                  sq31_
                  rotate_left
                  · intro w'
                    go_simp
                    with_reducible rfl
                  rotate_left
                  · sq3_
                    rfl
                  sq32_
                  rotate_left
                  · intro w'
                    go_simp
                    with_reducible rfl
                  rotate_left
                  · sq3_
                    rfl
                  sq33_
                  rotate_left
                  · intro w'
                    go_simp
                    with_reducible rfl
                  rotate_left
                  · sq3_
                    rfl
                  sq27_
              · skip
                sq20_
                intro gb135 hg w37 hbox hb
                sq8_
                sq9_
                sq10_
                have n3_ := Aside0.mk (hbox)
                sq21_
                sq22_
                sq23_
                sq24_
                sq25_
                sq26_
                clear BK124
                clear BK125
                clear HB
                have BK124 := n0_
                have BK125 := n1_
                have HB := n2_
                have BK135 := n3_
                have GW135 := n4_
                have GE135 := n5_
                have NB124_135 := n6_
                have NB135_124 := n7_
                have NB125_135 := n8_
                have NB135_125 := n9_
                clear n0_ n1_ n2_ n3_ n4_ n5_ n6_ n7_ n8_ n9_
                clear hb hbox hg
                sq11_
                clear hK K
                refine norm_ (a' := ?_) ?_ ?_
                rotate_left
                · show Act.put _ (some 6) _ = _
                  sq3_
                  rfl
                sq34_
                sq13_
                with_reducible refine (laws_toRange.calls a1_0 a1_1 t130 t131 _ A20.out).mono ?_
                rintro e w38 ⟨rfl, hb⟩
                refine ⟨_, rfl, ?_⟩
                sq8_
                sq9_
                sq29_
                sq30_
                clear BK124
                clear BK125
                clear BK135
                clear HB
                have BK124 := n0_
                have BK125 := n1_
                have BK135 := n2_
                have HB := n3_
                clear n0_ n1_ n2_ n3_
                (try clear hb)
                (try clear hb2)
                (try clear hk)
                (try clear hi)
                sq11_
                clear hK K
                refine norm_ (a' := ?_) ?_ ?_
                rotate_left
                · show Act.put _ (some 24) _ = _
                  sq3_
                  rfl
                sq28_
                sq15_
                with_reducible refine (spec_RangeBoth.calls k t128 t129 t130 t131 t132 t133 t134 _ A21.out).mono ?_
                rintro e w39 ⟨rfl, hb⟩
                refine ⟨_, rfl, ?_⟩
                sq8_
                sq9_
                sq29_
                sq30_
                clear BK124
                clear BK125
                clear BK135
                clear HB
                have BK124 := n0_
                have BK125 := n1_
                have BK135 := n2_
                have HB := n3_
                clear n0_ n1_ n2_ n3_
                (try clear hb)
                (try clear hb2)
                (try clear hk)
                (try clear hi)
                sq11_
                clear hK K
                refine norm_ (a' := ?_) ?_ ?_
                rotate_left
                · show Act.put _ (some 25) _ = _
                  sq3_
                  rfl
                sq31_
                rotate_left
                · intro w'
                  go_simp
                  with_reducible rfl
                rotate_left
                · sq3_
                  rfl
                sq32_
                rotate_left
                · intro w'
                  go_simp
                  with_reducible rfl
                rotate_left
                · sq3_
                  rfl
                sq33_
                rotate_left
                · intro w'
                  go_simp
                  with_reducible rfl
                rotate_left
                · sq3_
                  rfl
                sq27_
            · skip
              sq20_
              intro gb135 hg w36 hbox hb
              sq8_
              sq9_
              sq10_
              have n3_ := Aside0.mk (hbox)
              sq21_
              sq22_
              sq23_
              sq24_
              sq25_
              sq26_
              clear BK124
              clear BK125
              clear HB
              have BK124 := n0_
              have BK125 := n1_
              have HB := n2_
              have BK135 := n3_
              have GW135 := n4_
              have GE135 := n5_
              have NB124_135 := n6_
              have NB135_124 := n7_
              have NB125_135 := n8_
              have NB135_125 := n9_
              clear n0_ n1_ n2_ n3_ n4_ n5_ n6_ n7_ n8_ n9_
              clear hb hbox hg
              sq11_
              clear hK K
              refine norm_ (a' := ?_) ?_ ?_
              rotate_left
              · show Act.put _ (some 6) _ = _
                sq3_
                rfl
              sq35_
              sq7_
              with_reducible refine (laws_toRange.calls a0_0 a0_1 t128 t129 _ A19.out).mono ?_
              rintro e w37 ⟨rfl, hb⟩
              refine ⟨_, rfl, ?_⟩
              sq8_
              sq9_
              sq29_
              sq30_
              clear BK124
              clear BK125
              clear BK135
              clear HB
              have BK124 := n0_
              have BK125 := n1_
              have BK135 := n2_
              have HB := n3_
              clear n0_ n1_ n2_ n3_
              (try clear hb)
              (try clear hb2)
              (try clear hk)
              (try clear hi)
              sq11_
              clear hK K
              refine norm_ (a' := ?_) ?_ ?_
              rotate_left
              · show Act.put _ (some 22) _ = _
                sq3_
                rfl
              sq34_
              sq13_
              with_reducible refine (laws_toRange.calls a1_0 a1_1 t130 t131 _ A20.out).mono ?_
              rintro e w38 ⟨rfl, hb⟩
              refine ⟨_, rfl, ?_⟩
              sq8_
              sq9_
              sq29_
              sq30_
              clear BK124
              clear BK125
              clear BK135
              clear HB
              have BK124 := n0_
              have BK125 := n1_
              have BK135 := n2_
              have HB := n3_
              clear n0_ n1_ n2_ n3_
              (try clear hb)
              (try clear hb2)
              (try clear hk)
              (try clear hi)
              sq11_
              clear hK K
              refine norm_ (a' := ?_) ?_ ?_
              rotate_left
              · show Act.put _ (some 24) _ = _
                sq3_
                rfl
              sq28_
              sq15_
              with_reducible refine (spec_RangeBoth.calls k t128 t129 t130 t131 t132 t133 t134 _ A21.out).mono ?_
              rintro e w39 ⟨rfl, hb⟩
              refine ⟨_, rfl, ?_⟩
              sq8_
              sq9_
              sq29_
              sq30_
              clear BK124
              clear BK125
              clear BK135
              clear HB
              have BK124 := n0_
              have BK125 := n1_
              have BK135 := n2_
              have HB := n3_
              clear n0_ n1_ n2_ n3_
              (try clear hb)
              (try clear hb2)
              (try clear hk)
              (try clear hi)
              sq11_
              clear hK K
              refine norm_ (a' := ?_) ?_ ?_
              rotate_left
              · show Act.put _ (some 25) _ = _
                sq3_
                rfl
              sq31_
              rotate_left
              · intro w'
                go_simp
                with_reducible rfl
              rotate_left
              · sq3_
                rfl
              sq32_
              rotate_left
              · intro w'
                go_simp
                with_reducible rfl
              rotate_left
              · sq3_
                rfl
              sq33_
              rotate_left
              · intro w'
                go_simp
                with_reducible rfl
              rotate_left
              · sq3_
                rfl
              sq27_
          rintro gb135 w40 ⟨hS_, h0_, h1_, h2_, h3_, h4_, h5_, h6_, h7_, h8_, h9_⟩
          have n0_ : Aside0 (w40.heap[gb124]? = some (.cells #[.string a0_0, .string a0_1] 23 (0, 0))) := ⟨h0_⟩
          have n1_ : Aside0 (w40.heap[gb125]? = some (.cells #[.string a1_0, .string a1_1] 23 (0, 0))) := ⟨h1_⟩
          have n2_ : Aside0 (w40.heap[gb135]? = some (.cells #[.string (⟨#[]⟩ : ByteArray), .string (⟨#[]⟩ : ByteArray)] 25 (0, 0))) := ⟨h2_⟩
          have n3_ : Aside0 (w.heap.size ≤ gb135) := ⟨h3_⟩
          have n4_ : Aside0 (w.heap.size ≤ gb135) := ⟨h4_⟩
          have n5_ : Aside0 (gb124 ≠ gb135) := ⟨h5_⟩
          have n6_ : Aside0 (gb135 ≠ gb124) := ⟨h6_⟩
          have n7_ : Aside0 (gb125 ≠ gb135) := ⟨h7_⟩
          have n8_ : Aside0 (gb135 ≠ gb125) := ⟨h8_⟩
          have n9_ : Aside0 (Below w.heap.size w w40) := ⟨h9_⟩
          clear BK124
          clear BK125
          clear HB
          clear h0_ h1_ h2_ h3_ h4_ h5_ h6_ h7_ h8_ h9_
          have BK124 := n0_
          have BK125 := n1_
          have BK135 := n2_
          have GW135 := n3_
          have GE135 := n4_
          have NB124_135 := n5_
          have NB135_124 := n6_
          have NB125_135 := n7_
          have NB135_125 := n8_
          have HB := n9_
          clear n0_ n1_ n2_ n3_ n4_ n5_ n6_ n7_ n8_ n9_
          have hHeld : w40.cell? ⟨gb124, 0, none⟩ = some (.string a0_0) ∧ w40.cell? ⟨gb124, 1, none⟩ = some (.string a0_1) ∧ w40.cell? ⟨gb125, 0, none⟩ = some (.string a1_0) ∧ w40.cell? ⟨gb125, 1, none⟩ = some (.string a1_1) := hS_
          refine norm_ (a' := ?_) ?_ ?_
          rotate_left
          · sq36_
            rfl
          sq37_
          have hs41 : w40.cell? ⟨gb135, 0, none⟩ = some (.string (⟨#[]⟩ : ByteArray)) := (blk_cell BK135.out 0).trans rfl
          have hfs41 := blk_frozen BK135.out 0
          have hns41_0 := NB124_135.out
          have hns41_1 := NB125_135.out
          have hms41_0 := NB135_124.out
          have hms41_1 := NB135_125.out
          have hs42 : w40.cell? ⟨gb135, 1, none⟩ = some (.string (⟨#[]⟩ : ByteArray)) := (blk_cell BK135.out 1).trans rfl
          have hfs42 := blk_frozen BK135.out 1
          have hns42_0 := NB124_135.out
          have hns42_1 := NB125_135.out
          have hms42_0 := NB135_124.out
          have hms42_1 := NB135_125.out
          refine skip_ (w1 := ?_) (by rfl) rfl ?_ ?_
          rotate_left
          · go_simp
            rfl
          sq38_
          clear hK K
          sq39_
          rotate_left
          · intro w'
            go_simp
            with_reducible rfl
          rotate_left
          · sq3_
            rfl
          refine done_ (done_of HT_.out (by kernel_rfl)) ?_
          try go_wp2
          have n0_ : Aside0 (((w40.setCell ⟨gb135, 0, none⟩ (.string t132)).setCell ⟨gb135, 1, none⟩ (.string t133)).heap[gb124]? = some (.cells #[.string a0_0, .string a0_1] 23 (0, 0))) := ⟨by (with_reducible repeat (first | refine blk_drewN ?_ _ | refine blk_drew ?_ | refine blk_alloc ?_ _)); refine blk_far ?_ NB124_135.out _; (with_reducible repeat (first | refine blk_drewN ?_ _ | refine blk_drew ?_ | refine blk_alloc ?_ _)); refine blk_far ?_ NB124_135.out _; (with_reducible repeat (first | refine blk_drewN ?_ _ | refine blk_drew ?_ | refine blk_alloc ?_ _)); exact BK124.out⟩
          have n1_ : Aside0 (((w40.setCell ⟨gb135, 0, none⟩ (.string t132)).setCell ⟨gb135, 1, none⟩ (.string t133)).heap[gb125]? = some (.cells #[.string a1_0, .string a1_1] 23 (0, 0))) := ⟨by (with_reducible repeat (first | refine blk_drewN ?_ _ | refine blk_drew ?_ | refine blk_alloc ?_ _)); refine blk_far ?_ NB125_135.out _; (with_reducible repeat (first | refine blk_drewN ?_ _ | refine blk_drew ?_ | refine blk_alloc ?_ _)); refine blk_far ?_ NB125_135.out _; (with_reducible repeat (first | refine blk_drewN ?_ _ | refine blk_drew ?_ | refine blk_alloc ?_ _)); exact BK125.out⟩
          have n2_ : Aside0 (((w40.setCell ⟨gb135, 0, none⟩ (.string t132)).setCell ⟨gb135, 1, none⟩ (.string t133)).heap[gb135]? = some (.cells #[.string t132, .string t133] 25 (0, 0))) := ⟨by (with_reducible repeat (first | refine blk_drewN ?_ _ | refine blk_drew ?_ | refine blk_alloc ?_ _)); refine blk_put (cs := #[.string t132, .string (⟨#[]⟩ : ByteArray)]) ?_ 1 _ rfl; (with_reducible repeat (first | refine blk_drewN ?_ _ | refine blk_drew ?_ | refine blk_alloc ?_ _)); refine blk_put (cs := #[.string (⟨#[]⟩ : ByteArray), .string (⟨#[]⟩ : ByteArray)]) ?_ 0 _ rfl; (with_reducible repeat (first | refine blk_drewN ?_ _ | refine blk_drew ?_ | refine blk_alloc ?_ _)); exact BK135.out⟩
          have n3_ : Aside0 (Below w.heap.size w ((w40.setCell ⟨gb135, 0, none⟩ (.string t132)).setCell ⟨gb135, 1, none⟩ (.string t133))) := ⟨by repeat (first | (with_reducible first | exact HB.out | apply below_alloc | apply pw_below_drewN | apply below_drew1 | refine below_set ?_ GE124.out | refine below_set ?_ GE125.out | refine below_set ?_ GE135.out) | exact HB.out)⟩
          (try clear BK124)
          (try clear BK125)
          (try clear BK135)
          (try clear HB)
          generalize ((w40.setCell ⟨gb135, 0, none⟩ (.string t132)).setCell ⟨gb135, 1, none⟩ (.string t133)) = w43 at n0_ n1_ n2_ n3_ ⊢
          have BK124 := n0_
          have BK125 := n1_
          have BK135 := n2_
          have HB := n3_
          clear n0_ n1_ n2_ n3_
          have n0_ := Aside0.mk (blk_drew BK124.out)
          have n1_ := Aside0.mk (blk_drew BK125.out)
          have n2_ := Aside0.mk (blk_drew BK135.out)
          have n3_ := Aside0.mk (below_drew1 HB.out)
          clear BK124
          clear BK125
          clear BK135
          clear HB
          have BK124 := n0_
          have BK125 := n1_
          have BK135 := n2_
          have HB := n3_
          clear n0_ n1_ n2_ n3_
          sq40_
          generalize w43.drew = w44 at BK124 BK125 BK135 HB hHeld ⊢
          sq41_
          rotate_left
          · rintro w' ⟨s0, s1, s2, s3⟩
            go_simp
            with_reducible rfl
          rotate_left
          · sq3_
            rfl
          sq42_
          rotate_left
          · rintro w' ⟨s0, s1, s2, s3⟩
            go_simp
            with_reducible rfl
          rotate_left
          · sq3_
            rfl
          sq43_
          rotate_left
          · intro hCont
            sq44_
            · skip
              sq7_
              with_reducible refine (laws_toRange.calls a0_0 a0_1 t136 t137 _ A22.out).mono ?_
              rintro e w45 ⟨rfl, hb⟩
              refine ⟨_, rfl, ?_⟩
              sq8_
              sq9_
              sq45_
              sq30_
              clear BK124
              clear BK125
              clear BK135
              clear HB
              have BK124 := n0_
              have BK125 := n1_
              have BK135 := n2_
              have HB := n3_
              clear n0_ n1_ n2_ n3_
              (try clear hb)
              (try clear hb2)
              (try clear hk)
              (try clear hi)
              sq11_
              clear hK K
              refine norm_ (a' := ?_) ?_ ?_
              rotate_left
              · show Act.put _ (some 30) _ = _
                sq3_
                rfl
              sq46_
              · skip
                sq13_
                with_reducible refine (laws_toRange.calls a1_0 a1_1 t138 t139 _ A23.out).mono ?_
                rintro e w46 ⟨rfl, hb⟩
                refine ⟨_, rfl, ?_⟩
                sq8_
                sq9_
                sq45_
                sq30_
                clear BK124
                clear BK125
                clear BK135
                clear HB
                have BK124 := n0_
                have BK125 := n1_
                have BK135 := n2_
                have HB := n3_
                clear n0_ n1_ n2_ n3_
                (try clear hb)
                (try clear hb2)
                (try clear hk)
                (try clear hi)
                sq11_
                clear hK K
                refine norm_ (a' := ?_) ?_ ?_
                rotate_left
                · show Act.put _ (some 32) _ = _
                  sq3_
                  rfl
                sq47_
                · skip
                  sq48_
                  with_reducible refine (impl_RangeBoth.calls k t136 t137 t138 t139 t140 t141 t142 _ A24.out).mono ?_
                  rintro e w47 ⟨rfl, hb⟩
                  refine ⟨_, rfl, ?_⟩
                  sq8_
                  sq9_
                  sq45_
                  sq30_
                  clear BK124
                  clear BK125
                  clear BK135
                  clear HB
                  have BK124 := n0_
                  have BK125 := n1_
                  have BK135 := n2_
                  have HB := n3_
                  clear n0_ n1_ n2_ n3_
                  (try clear hb)
                  (try clear hb2)
                  (try clear hk)
                  (try clear hi)
                  sq11_
                  clear hK K
                  refine norm_ (a' := ?_) ?_ ?_
                  rotate_left
                  · show Act.put _ (some 33) _ = _
                    sq3_
                    rfl
                  sq49_
                  rotate_left
                  · intro w'
                    go_simp
                    with_reducible rfl
                  rotate_left
                  · sq3_
                    rfl
                  sq50_
                  rotate_left
                  · intro w'
                    go_simp
                    with_reducible rfl
                  rotate_left
                  · sq3_
                    rfl
                  sq51_
                  rotate_left
                  · intro w'
                    go_simp
                    with_reducible rfl
                  rotate_left
                  · sq3_
                    rfl
                  sq52_
                  sq53_
                  intro gb143 hg w48 hbox hb
                  sq8_
                  sq9_
                  sq45_
                  sq30_
                  have n4_ := Aside0.mk (hbox)
                  sq54_
                  sq55_
                  sq56_
                  sq57_
                  sq58_
                  sq59_
                  sq60_
                  sq61_
                  clear BK124
                  clear BK125
                  clear BK135
                  clear HB
                  have BK124 := n0_
                  have BK125 := n1_
                  have BK135 := n2_
                  have HB := n3_
                  have BK143 := n4_
                  have GW143 := n5_
                  have GE143 := n6_
                  have NB124_143 := n7_
                  have NB143_124 := n8_
                  have NB125_143 := n9_
                  have NB143_125 := n10_
                  have NB135_143 := n11_
                  have NB143_135 := n12_
                  clear n0_ n1_ n2_ n3_ n4_ n5_ n6_ n7_ n8_ n9_ n10_ n11_ n12_
                  clear hb hbox hg
                  sq11_
                  clear hK K
                  refine norm_ (a' := ?_) ?_ ?_
                  rotate_left
                  · show Act.put _ (some 8) _ = _
                    sq3_
                    rfl
                  sq62_
                · skip
                  sq53_
                  intro gb143 hg w47 hbox hb
                  sq8_
                  sq9_
                  sq45_
                  sq30_
                  have n4_ := Aside0.mk (hbox)
                  sq54_
                  sq55_
                  sq56_
                  sq57_
                  sq58_
                  sq59_
                  sq60_
                  sq61_
                  clear BK124
                  clear BK125
                  clear BK135
                  clear HB
                  have BK124 := n0_
                  have BK125 := n1_
                  have BK135 := n2_
                  have HB := n3_
                  have BK143 := n4_
                  have GW143 := n5_
                  have GE143 := n6_
                  have NB124_143 := n7_
                  have NB143_124 := n8_
                  have NB125_143 := n9_
                  have NB143_125 := n10_
                  have NB135_143 := n11_
                  have NB143_135 := n12_
                  clear n0_ n1_ n2_ n3_ n4_ n5_ n6_ n7_ n8_ n9_ n10_ n11_ n12_
                  clear hb hbox hg
                  sq11_
                  clear hK K
                  refine norm_ (a' := ?_) ?_ ?_
                  rotate_left
                  · show Act.put _ (some 8) _ = _
                    sq3_
                    rfl
                  sq63_
                  sq48_
                  with_reducible refine (impl_RangeBoth.calls k t136 t137 t138 t139 t140 t141 t142 _ A24.out).mono ?_
                  rintro e w48 ⟨rfl, hb⟩
                  refine ⟨_, rfl, ?_⟩
                  sq8_
                  sq9_
                  sq45_
                  sq64_
                  sq65_
                  clear BK124
                  clear BK125
                  clear BK135
                  clear BK143
                  clear HB
                  have BK124 := n0_
                  have BK125 := n1_
                  have BK135 := n2_
                  have BK143 := n3_
                  have HB := n4_
                  clear n0_ n1_ n2_ n3_ n4_
                  (try clear hb)
                  (try clear hb2)
                  (try clear hk)
                  (try clear hi)
                  sq11_
                  clear hK K
                  refine norm_ (a' := ?_) ?_ ?_
                  rotate_left
                  · show Act.put _ (some 33) _ = _
                    sq3_
                    rfl
                  sq66_
                  rotate_left
                  · intro w'
                    go_simp
                    with_reducible rfl
                  rotate_left
                  · sq3_
                    rfl
                  sq67_
                  rotate_left
                  · intro w'
                    go_simp
                    with_reducible rfl
                  rotate_left
                  · sq3_
                    rfl
                  sq68_
                  rotate_left
                  · intro w'
                    go_simp
                    with_reducible rfl
                  rotate_left
                  · sq3_
                    rfl
                  sq62_
              · skip
                sq53_
                intro gb143 hg w46 hbox hb
                sq8_
                sq9_
                sq45_
                sq30_
                have n4_ := Aside0.mk (hbox)
                sq54_
                sq55_
                sq56_
                sq57_
                sq58_
                sq59_
                sq60_
                sq61_
                clear BK124
                clear BK125
                clear BK135
                clear HB
                have BK124 := n0_
                have BK125 := n1_
                have BK135 := n2_
                have HB := n3_
                have BK143 := n4_
                have GW143 := n5_
                have GE143 := n6_
                have NB124_143 := n7_
                have NB143_124 := n8_
                have NB125_143 := n9_
                have NB143_125 := n10_
                have NB135_143 := n11_
                have NB143_135 := n12_
                clear n0_ n1_ n2_ n3_ n4_ n5_ n6_ n7_ n8_ n9_ n10_ n11_ n12_
                clear hb hbox hg
                sq11_
                clear hK K
                refine norm_ (a' := ?_) ?_ ?_
                rotate_left
                · show Act.put _ (some 8) _ = _
                  sq3_
                  rfl
                sq69_
                sq13_
                with_reducible refine (laws_toRange.calls a1_0 a1_1 t138 t139 _ A23.out).mono ?_
                rintro e w47 ⟨rfl, hb⟩
                refine ⟨_, rfl, ?_⟩
                sq8_
                sq9_
                sq45_
                sq64_
                sq65_
                clear BK124
                clear BK125
                clear BK135
                clear BK143
                clear HB
                have BK124 := n0_
                have BK125 := n1_
                have BK135 := n2_
                have BK143 := n3_
                have HB := n4_
                clear n0_ n1_ n2_ n3_ n4_
                (try clear hb)
                (try clear hb2)
                (try clear hk)
                (try clear hi)
                sq11_
                clear hK K
                refine norm_ (a' := ?_) ?_ ?_
                rotate_left
                · show Act.put _ (some 32) _ = _
                  sq3_
                  rfl
                sq63_
                sq48_
                with_reducible refine (impl_RangeBoth.calls k t136 t137 t138 t139 t140 t141 t142 _ A24.out).mono ?_
                rintro e w48 ⟨rfl, hb⟩
                refine ⟨_, rfl, ?_⟩
                sq8_
                sq9_
                sq45_
                sq64_
                sq65_
                clear BK124
                clear BK125
                clear BK135
                clear BK143
                clear HB
                have BK124 := n0_
                have BK125 := n1_
                have BK135 := n2_
                have BK143 := n3_
                have HB := n4_
                clear n0_ n1_ n2_ n3_ n4_
                (try clear hb)
                (try clear hb2)
                (try clear hk)
                (try clear hi)
                sq11_
                clear hK K
                refine norm_ (a' := ?_) ?_ ?_
                rotate_left
                · show Act.put _ (some 33) _ = _
                  sq3_
                  rfl
                sq66_
                rotate_left
                · intro w'
                  go_simp
                  with_reducible rfl
                rotate_left
                · sq3_
                  rfl
                sq67_
                rotate_left
                · intro w'
                  go_simp
                  with_reducible rfl
                rotate_left
                · sq3_
                  rfl
                sq68_
                rotate_left
                · intro w'
                  go_simp
                  with_reducible rfl
                rotate_left
                · sq3_
                  rfl
                sq62_
            · skip
              sq53_
              intro gb143 hg w45 hbox hb
              sq8_
              sq9_
              sq45_
              sq30_
              have n4_ := Aside0.mk (hbox)
              sq54_
              sq55_
              sq56_
              sq57_
              sq58_
              sq59_
              sq60_
              sq61_
              clear BK124
              clear BK125
              clear BK135
              clear HB
              have BK124 := n0_
              have BK125 := n1_
              have BK135 := n2_
              have HB := n3_
              have BK143 := n4_
              have GW143 := n5_
              have GE143 := n6_
              have NB124_143 := n7_
              have NB143_124 := n8_
              have NB125_143 := n9_
              have NB143_125 := n10_
              have NB135_143 := n11_
              have NB143_135 := n12_
              clear n0_ n1_ n2_ n3_ n4_ n5_ n6_ n7_ n8_ n9_ n10_ n11_ n12_
              clear hb hbox hg
              sq11_
              clear hK K
              refine norm_ (a' := ?_) ?_ ?_
              rotate_left
              · show Act.put _ (some 8) _ = _
                sq3_
                rfl
              sq70_
              sq7_
              with_reducible refine (laws_toRange.calls a0_0 a0_1 t136 t137 _ A22.out).mono ?_
              rintro e w46 ⟨rfl, hb⟩
              refine ⟨_, rfl, ?_⟩
              sq8_
              sq9_
              sq45_
              sq64_
              sq65_
              clear BK124
              clear BK125
              clear BK135
              clear BK143
              clear HB
              have BK124 := n0_
              have BK125 := n1_
              have BK135 := n2_
              have BK143 := n3_
              have HB := n4_
              clear n0_ n1_ n2_ n3_ n4_
              (try clear hb)
              (try clear hb2)
              (try clear hk)
              (try clear hi)
              sq11_
              clear hK K
              refine norm_ (a' := ?_) ?_ ?_
              rotate_left
              · show Act.put _ (some 30) _ = _
                sq3_
                rfl
              sq69_
              sq13_
              with_reducible refine (laws_toRange.calls a1_0 a1_1 t138 t139 _ A23.out).mono ?_
              rintro e w47 ⟨rfl, hb⟩
              refine ⟨_, rfl, ?_⟩
              sq8_
              sq9_
              sq45_
              sq64_
              sq65_
              clear BK124
              clear BK125
              clear BK135
              clear BK143
              clear HB
              have BK124 := n0_
              have BK125 := n1_
              have BK135 := n2_
              have BK143 := n3_
              have HB := n4_
              clear n0_ n1_ n2_ n3_ n4_
              (try clear hb)
              (try clear hb2)
              (try clear hk)
              (try clear hi)
              sq11_
              clear hK K
              refine norm_ (a' := ?_) ?_ ?_
              rotate_left
              · show Act.put _ (some 32) _ = _
                sq3_
                rfl
              sq63_
              sq48_
              with_reducible refine (impl_RangeBoth.calls k t136 t137 t138 t139 t140 t141 t142 _ A24.out).mono ?_
              rintro e w48 ⟨rfl, hb⟩
              refine ⟨_, rfl, ?_⟩
              sq8_
              sq9_
              sq45_
              sq64_
              sq65_
              clear BK124
              clear BK125
              clear BK135
              clear BK143
              clear HB
              have BK124 := n0_
              have BK125 := n1_
              have BK135 := n2_
              have BK143 := n3_
              have HB := n4_
              clear n0_ n1_ n2_ n3_ n4_
              (try clear hb)
              (try clear hb2)
              (try clear hk)
              (try clear hi)
              sq11_
              clear hK K
              refine norm_ (a' := ?_) ?_ ?_
              rotate_left
              · show Act.put _ (some 33) _ = _
                sq3_
                rfl
              sq66_
              rotate_left
              · intro w'
                go_simp
                with_reducible rfl
              rotate_left
              · sq3_
                rfl
              sq67_
              rotate_left
              · intro w'
                go_simp
                with_reducible rfl
              rotate_left
              · sq3_
                rfl
              sq68_
              rotate_left
              · intro w'
                go_simp
                with_reducible rfl
              rotate_left
              · sq3_
                rfl
              sq62_
          rintro gb143 w49 ⟨hS_, h0_, h1_, h2_, h3_, h4_, h5_, h6_, h7_, h8_, h9_, h10_, h11_, h12_⟩
          have n0_ : Aside0 (w49.heap[gb124]? = some (.cells #[.string a0_0, .string a0_1] 23 (0, 0))) := ⟨h0_⟩
          have n1_ : Aside0 (w49.heap[gb125]? = some (.cells #[.string a1_0, .string a1_1] 23 (0, 0))) := ⟨h1_⟩
          have n2_ : Aside0 (w49.heap[gb135]? = some (.cells #[.string t132, .string t133] 25 (0, 0))) := ⟨h2_⟩
          have n3_ : Aside0 (w49.heap[gb143]? = some (.cells #[.string (⟨#[]⟩ : ByteArray), .string (⟨#[]⟩ : ByteArray)] 25 (0, 0))) := ⟨h3_⟩
          have n4_ : Aside0 (w.heap.size ≤ gb143) := ⟨h4_⟩
          have n5_ : Aside0 (w.heap.size ≤ gb143) := ⟨h5_⟩
          have n6_ : Aside0 (gb124 ≠ gb143) := ⟨h6_⟩
          have n7_ : Aside0 (gb143 ≠ gb124) := ⟨h7_⟩
          have n8_ : Aside0 (gb125 ≠ gb143) := ⟨h8_⟩
          have n9_ : Aside0 (gb143 ≠ gb125) := ⟨h9_⟩
          have n10_ : Aside0 (gb135 ≠ gb143) := ⟨h10_⟩
          have n11_ : Aside0 (gb143 ≠ gb135) := ⟨h11_⟩
          have n12_ : Aside0 (Below w.heap.size w w49) := ⟨h12_⟩
          clear BK124
          clear BK125
          clear BK135
          clear HB
          clear h0_ h1_ h2_ h3_ h4_ h5_ h6_ h7_ h8_ h9_ h10_ h11_ h12_
          have BK124 := n0_
          have BK125 := n1_
          have BK135 := n2_
          have BK143 := n3_
          have GW143 := n4_
          have GE143 := n5_
          have NB124_143 := n6_
          have NB143_124 := n7_
          have NB125_143 := n8_
          have NB143_125 := n9_
          have NB135_143 := n10_
          have NB143_135 := n11_
          have HB := n12_
          clear n0_ n1_ n2_ n3_ n4_ n5_ n6_ n7_ n8_ n9_ n10_ n11_ n12_
          have hHeld : w49.cell? ⟨gb124, 0, none⟩ = some (.string a0_0) ∧ w49.cell? ⟨gb124, 1, none⟩ = some (.string a0_1) ∧ w49.cell? ⟨gb125, 0, none⟩ = some (.string a1_0) ∧ w49.cell? ⟨gb125, 1, none⟩ = some (.string a1_1) := hS_
          refine norm_ (a' := ?_) ?_ ?_
          rotate_left
          · sq36_
            rfl
          sq37_
          have hs50 : w49.cell? ⟨gb143, 0, none⟩ = some (.string (⟨#[]⟩ : ByteArray)) := (blk_cell BK143.out 0).trans rfl
          have hfs50 := blk_frozen BK143.out 0
          have hns50_0 := NB124_143.out
          have hns50_1 := NB125_143.out
          have hns50_2 := NB135_143.out
          have hms50_0 := NB143_124.out
          have hms50_1 := NB143_125.out
          have hms50_2 := NB143_135.out
          have hs51 : w49.cell? ⟨gb143, 1, none⟩ = some (.string (⟨#[]⟩ : ByteArray)) := (blk_cell BK143.out 1).trans rfl
          have hfs51 := blk_frozen BK143.out 1
          have hns51_0 := NB124_143.out
          have hns51_1 := NB125_143.out
          have hns51_2 := NB135_143.out
          have hms51_0 := NB143_124.out
          have hms51_1 := NB143_125.out
          have hms51_2 := NB143_135.out
          refine skip_ (w1 := ?_) (by rfl) rfl ?_ ?_
          rotate_left
          · go_simp
            rfl
          sq71_
          clear hK K
          sq72_
          rotate_left
          · intro w'
            go_simp
            with_reducible rfl
          rotate_left
          · sq3_
            rfl
          refine done_ (done_of HT_.out (by kernel_rfl)) ?_
          have hnb52 := NB143_124.out
          have hnc52 := NB124_143.out
          have hnb53 := NB143_125.out
          have hnc53 := NB125_143.out
          have hnb54 := NB143_135.out
          have hnc54 := NB135_143.out
          have hcz55_0 : w49.cell? ⟨gb143, 0, none⟩ = some (.string (⟨#[]⟩ : ByteArray)) := (blk_cell BK143.out 0).trans rfl
          have hcz55_1 : w49.cell? ⟨gb143, 1, none⟩ = some (.string (⟨#[]⟩ : ByteArray)) := (blk_cell BK143.out 1).trans rfl
          have hfz55_0 := blk_frozen BK143.out 0
          have hfz55_1 := blk_frozen BK143.out 1
          have hnb56 := NB135_124.out
          have hnc56 := NB124_135.out
          have hnb57 := NB135_125.out
          have hnc57 := NB125_135.out
          have hcz58_0 : w49.cell? ⟨gb135, 0, none⟩ = some (.string t132) := (blk_cell BK135.out 0).trans rfl
          have hcz58_1 : w49.cell? ⟨gb135, 1, none⟩ = some (.string t133) := (blk_cell BK135.out 1).trans rfl
          have hfz58_0 := blk_frozen BK135.out 0
          have hfz58_1 := blk_frozen BK135.out 1
          try go_wp2_with (first | ((with_reducible refine gate_callee (f := 19) rfl ?_); refine goesL_ (some 38) rfl rfl Try.func19 (by kernel_rfl) rfl #[.agg #[.string t140, .string t141], .agg #[.string t132, .string t133]] rfl (by (try simp only [List.map_toArray, List.map_cons, List.map_nil]); first | done | rfl | (simp only [List.length_drop, List.length_take]; rfl)) ?_; (with_reducible refine (laws_eqRange.calls t140 t141 t132 t133 true _ A25.out).mono ?_); rintro e w59 ⟨rfl, hb⟩; refine ⟨_, rfl, ?_⟩; have n0_ := Aside0.mk (blk_below (g := gb124) (o := .cells #[.string a0_0, .string a0_1] 23 (0, 0)) (by (with_reducible repeat (first | refine blk_drewN ?_ _ | refine blk_drew ?_ | refine blk_alloc ?_ _)); refine blk_far ?_ NB124_143.out _; (with_reducible repeat (first | refine blk_drewN ?_ _ | refine blk_drew ?_ | refine blk_alloc ?_ _)); refine blk_far ?_ NB124_143.out _; (with_reducible repeat (first | refine blk_drewN ?_ _ | refine blk_drew ?_ | refine blk_alloc ?_ _)); exact BK124.out) hb); have n1_ := Aside0.mk (blk_below (g := gb125) (o := .cells #[.string a1_0, .string a1_1] 23 (0, 0)) (by (with_reducible repeat (first | refine blk_drewN ?_ _ | refine blk_drew ?_ | refine blk_alloc ?_ _)); refine blk_far ?_ NB125_143.out _; (with_reducible repeat (first | refine blk_drewN ?_ _ | refine blk_drew ?_ | refine blk_alloc ?_ _)); refine blk_far ?_ NB125_143.out _; (with_reducible repeat (first | refine blk_drewN ?_ _ | refine blk_drew ?_ | refine blk_alloc ?_ _)); exact BK125.out) hb); have n2_ := Aside0.mk (blk_below (g := gb135) (o := .cells #[.string t132, .string t133] 25 (0, 0)) (by (with_reducible repeat (first | refine blk_drewN ?_ _ | refine blk_drew ?_ | refine blk_alloc ?_ _)); refine blk_far ?_ NB135_143.out _; (with_reducible repeat (first | refine blk_drewN ?_ _ | refine blk_drew ?_ | refine blk_alloc ?_ _)); refine blk_far ?_ NB135_143.out _; (with_reducible repeat (first | refine blk_drewN ?_ _ | refine blk_drew ?_ | refine blk_alloc ?_ _)); exact BK135.out) hb); have n3_ := Aside0.mk (blk_below (g := gb143) (o := .cells #[.string t140, .string t141] 25 (0, 0)) (by (with_reducible repeat (first | refine blk_drewN ?_ _ | refine blk_drew ?_ | refine blk_alloc ?_ _)); refine blk_put (cs := #[.string t140, .string (⟨#[]⟩ : ByteArray)]) ?_ 1 _ rfl; (with_reducible repeat (first | refine blk_drewN ?_ _ | refine blk_drew ?_ | refine blk_alloc ?_ _)); refine blk_put (cs := #[.string (⟨#[]⟩ : ByteArray), .string (⟨#[]⟩ : ByteArray)]) ?_ 0 _ rfl; (with_reducible repeat (first | refine blk_drewN ?_ _ | refine blk_drew ?_ | refine blk_alloc ?_ _)); exact BK143.out) hb); have n4_ := Aside0.mk (below_step (by repeat (first | (with_reducible first | exact HB.out | apply below_alloc | apply pw_below_drewN | apply below_drew1 | refine below_set ?_ GE124.out | refine below_set ?_ GE125.out | refine below_set ?_ GE135.out | refine below_set ?_ GE143.out) | exact HB.out)) hb); clear BK124; clear BK125; clear BK135; clear BK143; clear HB; have BK124 := n0_; have BK125 := n1_; have BK135 := n2_; have BK143 := n3_; have HB := n4_; clear n0_ n1_ n2_ n3_ n4_; (try clear hb); (try clear hb2); (try clear hk); (try clear hi)))
          go_ret
          sq73_
        · rw [if_neg c27] at H
          have c27b0 : (t142 != t134) = false := by simpa using c27
          (try (have c27b1 : decide (t142 = t134) = true := by simpa using c27))
          (try (have c27b2 : (t142 == t134) = true := by simpa using c27))
          clear c27
          obtain rfl := Option.some.inj H
          go_enter Try.func3, Try.ntmps3
          try go_wp2_with (first | ((with_reducible refine gate_dst (N := 2) rfl ?_); refine box_event ?hg (N := 2) ?hd (cs := #[.string a0_0, .string a0_1]) (t := 23) ?hr ?_; (case hd => rfl); (case hg => rfl); (case hr => first | (go_simp; done) | (go_simp; rfl)); intro gb124 hg w60 hbox hb; have n0_ := Aside0.mk (below_step (by repeat (first | (with_reducible first | exact HB.out | apply below_alloc | apply pw_below_drewN | apply below_drew1) | exact HB.out)) hb); have n1_ := Aside0.mk (hbox); have n2_ := Aside0.mk ((by rw [hg]; exact (below_size (by repeat (first | (with_reducible first | exact HB.out | apply below_alloc | apply pw_below_drewN | apply below_drew1) | exact HB.out))) : w.heap.size ≤ gb124)); have n3_ := Aside0.mk ((by rw [hg]; exact (below_size (by repeat (first | (with_reducible first | exact HB.out | apply below_alloc | apply pw_below_drewN | apply below_drew1) | exact HB.out))) : w.heap.size ≤ gb124)); clear HB; have HB := n0_; have BK124 := n1_; have GW124 := n2_; have GE124 := n3_; clear n0_ n1_ n2_ n3_; clear hb hbox hg) | ((with_reducible refine gate_dst (N := 3) rfl ?_); refine box_event ?hg (N := 3) ?hd (cs := #[.string a1_0, .string a1_1]) (t := 23) ?hr ?_; (case hd => rfl); (case hg => rfl); (case hr => first | (go_simp; done) | (go_simp; rfl)); intro gb125 hg w61 hbox hb; have n0_ := Aside0.mk (blk_below (g := gb124) (o := .cells #[.string a0_0, .string a0_1] 23 (0, 0)) (by (with_reducible repeat (first | refine blk_drewN ?_ _ | refine blk_drew ?_ | refine blk_alloc ?_ _)); exact BK124.out) hb); have n1_ := Aside0.mk (below_step (by repeat (first | (with_reducible first | exact HB.out | apply below_alloc | apply pw_below_drewN | apply below_drew1 | refine below_set ?_ GE124.out) | exact HB.out)) hb); have n2_ := Aside0.mk (hbox); have n3_ := Aside0.mk ((by rw [hg]; exact (below_size (by repeat (first | (with_reducible first | exact HB.out | apply below_alloc | apply pw_below_drewN | apply below_drew1 | refine below_set ?_ GE124.out) | exact HB.out))) : w.heap.size ≤ gb125)); have n4_ := Aside0.mk ((by rw [hg]; exact (below_size (by repeat (first | (with_reducible first | exact HB.out | apply below_alloc | apply pw_below_drewN | apply below_drew1 | refine below_set ?_ GE124.out) | exact HB.out))) : w.heap.size ≤ gb125)); have n5_ := Aside0.mk ((by rw [hg]; exact Nat.ne_of_lt (blk_lt (g := gb124) (o := .cells #[.string a0_0, .string a0_1] 23 (0, 0)) (by (with_reducible repeat (first | refine blk_drewN ?_ _ | refine blk_drew ?_ | refine blk_alloc ?_ _)); exact BK124.out)) : gb124 ≠ gb125)); have n6_ := Aside0.mk ((by rw [hg]; exact Nat.ne_of_gt (blk_lt (g := gb124) (o := .cells #[.string a0_0, .string a0_1] 23 (0, 0)) (by (with_reducible repeat (first | refine blk_drewN ?_ _ | refine blk_drew ?_ | refine blk_alloc ?_ _)); exact BK124.out)) : gb125 ≠ gb124)); clear BK124; clear HB; have BK124 := n0_; have HB := n1_; have BK125 := n2_; have GW125 := n3_; have GE125 := n4_; have NB124_125 := n5_; have NB125_124 := n6_; clear n0_ n1_ n2_ n3_ n4_ n5_ n6_; clear hb hbox hg; have hnb62 := NB124_125.out; have hnc62 := NB125_124.out; have hcz63_0 : w61.cell? ⟨gb124, 0, none⟩ = some (.string a0_0) := (blk_cell BK124.out 0).trans rfl; have hcz63_1 : w61.cell? ⟨gb124, 1, none⟩ = some (.string a0_1) := (blk_cell BK124.out 1).trans rfl; have hfz63_0 := blk_frozen BK124.out 0; have hfz63_1 := blk_frozen BK124.out 1) | ((with_reducible refine gate_callee (f := 15) rfl ?_); refine goesL_ (some 12) rfl rfl Try.func15 (by kernel_rfl) rfl #[.agg #[.string a0_0, .string a0_1], .int .i64 1048576] rfl (by (try simp only [List.map_toArray, List.map_cons, List.map_nil]); first | done | rfl | (simp only [List.length_drop, List.length_take]; rfl)) ?_; (with_reducible refine (laws_szRange.calls a0_0 a0_1 1048576 t126 _ A3.out).mono ?_); rintro e w64 ⟨rfl, hb⟩; refine ⟨_, rfl, ?_⟩; have n0_ := Aside0.mk (blk_below (g := gb124) (o := .cells #[.string a0_0, .string a0_1] 23 (0, 0)) (by (with_reducible repeat (first | refine blk_drewN ?_ _ | refine blk_drew ?_ | refine blk_alloc ?_ _)); exact BK124.out) hb); have n1_ := Aside0.mk (blk_below (g := gb125) (o := .cells #[.string a1_0, .string a1_1] 23 (0, 0)) (by (with_reducible repeat (first | refine blk_drewN ?_ _ | refine blk_drew ?_ | refine blk_alloc ?_ _)); exact BK125.out) hb); have n2_ := Aside0.mk (below_step (by repeat (first | (with_reducible first | exact HB.out | apply below_alloc | apply pw_below_drewN | apply below_drew1 | refine below_set ?_ GE124.out | refine below_set ?_ GE125.out) | exact HB.out)) hb); clear BK124; clear BK125; clear HB; have BK124 := n0_; have BK125 := n1_; have HB := n2_; clear n0_ n1_ n2_; (try clear hb); (try clear hb2); (try clear hk); (try clear hi); have hcz65_0 : w64.cell? ⟨gb125, 0, none⟩ = some (.string a1_0) := (blk_cell BK125.out 0).trans rfl; have hcz65_1 : w64.cell? ⟨gb125, 1, none⟩ = some (.string a1_1) := (blk_cell BK125.out 1).trans rfl; have hfz65_0 := blk_frozen BK125.out 0; have hfz65_1 := blk_frozen BK125.out 1) | ((with_reducible refine gate_callee (f := 15) rfl ?_); refine goesL_ (some 17) rfl rfl Try.func15 (by kernel_rfl) rfl #[.agg #[.string a1_0, .string a1_1], .int .i64 t126] rfl (by (try simp only [List.map_toArray, List.map_cons, List.map_nil]); first | done | rfl | (simp only [List.length_drop, List.length_take]; rfl)) ?_; (with_reducible refine (laws_szRange.calls a1_0 a1_1 t126 t127 _ A10.out).mono ?_); rintro e w66 ⟨rfl, hb⟩; refine ⟨_, rfl, ?_⟩; have n0_ := Aside0.mk (blk_below (g := gb124) (o := .cells #[.string a0_0, .string a0_1] 23 (0, 0)) (by (with_reducible repeat (first | refine blk_drewN ?_ _ | refine blk_drew ?_ | refine blk_alloc ?_ _)); exact BK124.out) hb); have n1_ := Aside0.mk (blk_below (g := gb125) (o := .cells #[.string a1_0, .string a1_1] 23 (0, 0)) (by (with_reducible repeat (first | refine blk_drewN ?_ _ | refine blk_drew ?_ | refine blk_alloc ?_ _)); exact BK125.out) hb); have n2_ := Aside0.mk (below_step (by repeat (first | (with_reducible first | exact HB.out | apply below_alloc | apply pw_below_drewN | apply below_drew1 | refine below_set ?_ GE124.out | refine below_set ?_ GE125.out) | exact HB.out)) hb); clear BK124; clear BK125; clear HB; have BK124 := n0_; have BK125 := n1_; have HB := n2_; clear n0_ n1_ n2_; (try clear hb); (try clear hb2); (try clear hk); (try clear hi)))
          have n0_ := Aside0.mk (blk_drew BK124.out)
          have n1_ := Aside0.mk (blk_drew BK125.out)
          have n2_ := Aside0.mk (below_drew1 HB.out)
          clear BK124
          clear BK125
          clear HB
          have BK124 := n0_
          have BK125 := n1_
          have HB := n2_
          clear n0_ n1_ n2_
          sq1_
          generalize w66.drew = w67 at BK124 BK125 HB hHeld ⊢
          sq2_
          rotate_left
          · rintro w' ⟨s0, s1, s2, s3⟩
            go_simp
            with_reducible rfl
          rotate_left
          · sq3_
            rfl
          sq4_
          rotate_left
          · rintro w' ⟨s0, s1, s2, s3⟩
            go_simp
            with_reducible rfl
          rotate_left
          · sq3_
            rfl
          sq5_
          rotate_left
          · intro hCont
            sq6_
            · skip
              sq7_
              with_reducible refine (laws_toRange.calls a0_0 a0_1 t128 t129 _ A19.out).mono ?_
              rintro e w68 ⟨rfl, hb⟩
              refine ⟨_, rfl, ?_⟩
              sq8_
              sq9_
              sq10_
              clear BK124
              clear BK125
              clear HB
              have BK124 := n0_
              have BK125 := n1_
              have HB := n2_
              clear n0_ n1_ n2_
              (try clear hb)
              (try clear hb2)
              (try clear hk)
              (try clear hi)
              sq11_
              clear hK K
              refine norm_ (a' := ?_) ?_ ?_
              rotate_left
              · show Act.put _ (some 22) _ = _
                sq3_
                rfl
              sq12_
              · skip
                sq13_
                with_reducible refine (laws_toRange.calls a1_0 a1_1 t130 t131 _ A20.out).mono ?_
                rintro e w69 ⟨rfl, hb⟩
                refine ⟨_, rfl, ?_⟩
                sq8_
                sq9_
                sq10_
                clear BK124
                clear BK125
                clear HB
                have BK124 := n0_
                have BK125 := n1_
                have HB := n2_
                clear n0_ n1_ n2_
                (try clear hb)
                (try clear hb2)
                (try clear hk)
                (try clear hi)
                sq11_
                clear hK K
                refine norm_ (a' := ?_) ?_ ?_
                rotate_left
                · show Act.put _ (some 24) _ = _
                  sq3_
                  rfl
                sq14_
                · skip
                  sq15_
                  with_reducible refine (spec_RangeBoth.calls k t128 t129 t130 t131 t132 t133 t134 _ A21.out).mono ?_
                  rintro e w70 ⟨rfl, hb⟩
                  refine ⟨_, rfl, ?_⟩
                  sq8_
                  sq9_
                  sq10_
                  clear BK124
                  clear BK125
                  clear HB
                  have BK124 := n0_
                  have BK125 := n1_
                  have HB := n2_
                  clear n0_ n1_ n2_
                  (try clear hb)
                  (try clear hb2)
                  (try clear hk)
                  (try clear hi)
                  sq11_
                  clear hK K
                  refine norm_ (a' := ?_) ?_ ?_
                  rotate_left
                  · show Act.put _ (some 25) _ = _
                    sq3_
                    rfl
                  sq16_
                  rotate_left
                  · intro w'
                    go_simp
                    with_reducible rfl
                  rotate_left
                  · sq3_
                    rfl
                  sq17_
                  rotate_left
                  · intro w'
                    go_simp
                    with_reducible rfl
                  rotate_left
                  · sq3_
                    rfl
                  sq18_
                  rotate_left
                  · intro w'
                    go_simp
                    with_reducible rfl
                  rotate_left
                  · sq3_
                    rfl
                  sq19_
                  sq20_
                  intro gb135 hg w71 hbox hb
                  sq8_
                  sq9_
                  sq10_
                  have n3_ := Aside0.mk (hbox)
                  sq21_
                  sq22_
                  sq23_
                  sq24_
                  sq25_
                  sq26_
                  clear BK124
                  clear BK125
                  clear HB
                  have BK124 := n0_
                  have BK125 := n1_
                  have HB := n2_
                  have BK135 := n3_
                  have GW135 := n4_
                  have GE135 := n5_
                  have NB124_135 := n6_
                  have NB135_124 := n7_
                  have NB125_135 := n8_
                  have NB135_125 := n9_
                  clear n0_ n1_ n2_ n3_ n4_ n5_ n6_ n7_ n8_ n9_
                  clear hb hbox hg
                  sq11_
                  clear hK K
                  refine norm_ (a' := ?_) ?_ ?_
                  rotate_left
                  · show Act.put _ (some 6) _ = _
                    sq3_
                    rfl
                  sq27_
                · skip
                  sq20_
                  intro gb135 hg w70 hbox hb
                  sq8_
                  sq9_
                  sq10_
                  have n3_ := Aside0.mk (hbox)
                  sq21_
                  sq22_
                  sq23_
                  sq24_
                  sq25_
                  sq26_
                  clear BK124
                  clear BK125
                  clear HB
                  have BK124 := n0_
                  have BK125 := n1_
                  have HB := n2_
                  have BK135 := n3_
                  have GW135 := n4_
                  have GE135 := n5_
                  have NB124_135 := n6_
                  have NB135_124 := n7_
                  have NB125_135 := n8_
                  have NB135_125 := n9_
                  clear n0_ n1_ n2_ n3_ n4_ n5_ n6_ n7_ n8_ n9_
                  clear hb hbox hg
                  sq11_
                  clear hK K
                  refine norm_ (a' := ?_) ?_ ?_
                  rotate_left
                  · show Act.put _ (some 6) _ = _
                    sq3_
                    rfl
                  sq28_
                  sq15_
                  with_reducible refine (spec_RangeBoth.calls k t128 t129 t130 t131 t132 t133 t134 _ A21.out).mono ?_
                  rintro e w71 ⟨rfl, hb⟩
                  refine ⟨_, rfl, ?_⟩
                  sq8_
                  sq9_
                  sq29_
                  sq30_
                  clear BK124
                  clear BK125
                  clear BK135
                  clear HB
                  have BK124 := n0_
                  have BK125 := n1_
                  have BK135 := n2_
                  have HB := n3_
                  clear n0_ n1_ n2_ n3_
                  (try clear hb)
                  (try clear hb2)
                  (try clear hk)
                  (try clear hi)
                  sq11_
                  clear hK K
                  refine norm_ (a' := ?_) ?_ ?_
                  rotate_left
                  · show Act.put _ (some 25) _ = _
                    sq3_
                    rfl
                  sq31_
                  rotate_left
                  · intro w'
                    go_simp
                    with_reducible rfl
                  rotate_left
                  · sq3_
                    rfl
                  sq32_
                  rotate_left
                  · intro w'
                    go_simp
                    with_reducible rfl
                  rotate_left
                  · sq3_
                    rfl
                  sq33_
                  rotate_left
                  · intro w'
                    go_simp
                    with_reducible rfl
                  rotate_left
                  · sq3_
                    rfl
                  sq27_
              · skip
                sq20_
                intro gb135 hg w69 hbox hb
                sq8_
                sq9_
                sq10_
                have n3_ := Aside0.mk (hbox)
                sq21_
                sq22_
                sq23_
                sq24_
                sq25_
                sq26_
                clear BK124
                clear BK125
                clear HB
                have BK124 := n0_
                have BK125 := n1_
                have HB := n2_
                have BK135 := n3_
                have GW135 := n4_
                have GE135 := n5_
                have NB124_135 := n6_
                have NB135_124 := n7_
                have NB125_135 := n8_
                have NB135_125 := n9_
                clear n0_ n1_ n2_ n3_ n4_ n5_ n6_ n7_ n8_ n9_
                clear hb hbox hg
                sq11_
                clear hK K
                refine norm_ (a' := ?_) ?_ ?_
                rotate_left
                · show Act.put _ (some 6) _ = _
                  sq3_
                  rfl
                sq34_
                sq13_
                with_reducible refine (laws_toRange.calls a1_0 a1_1 t130 t131 _ A20.out).mono ?_
                rintro e w70 ⟨rfl, hb⟩
                refine ⟨_, rfl, ?_⟩
                sq8_
                sq9_
                sq29_
                sq30_
                clear BK124
                clear BK125
                clear BK135
                clear HB
                have BK124 := n0_
                have BK125 := n1_
                have BK135 := n2_
                have HB := n3_
                clear n0_ n1_ n2_ n3_
                (try clear hb)
                (try clear hb2)
                (try clear hk)
                (try clear hi)
                sq11_
                clear hK K
                refine norm_ (a' := ?_) ?_ ?_
                rotate_left
                · show Act.put _ (some 24) _ = _
                  sq3_
                  rfl
                sq28_
                sq15_
                with_reducible refine (spec_RangeBoth.calls k t128 t129 t130 t131 t132 t133 t134 _ A21.out).mono ?_
                rintro e w71 ⟨rfl, hb⟩
                refine ⟨_, rfl, ?_⟩
                sq8_
                sq9_
                sq29_
                sq30_
                clear BK124
                clear BK125
                clear BK135
                clear HB
                have BK124 := n0_
                have BK125 := n1_
                have BK135 := n2_
                have HB := n3_
                clear n0_ n1_ n2_ n3_
                (try clear hb)
                (try clear hb2)
                (try clear hk)
                (try clear hi)
                sq11_
                clear hK K
                refine norm_ (a' := ?_) ?_ ?_
                rotate_left
                · show Act.put _ (some 25) _ = _
                  sq3_
                  rfl
                sq31_
                rotate_left
                · intro w'
                  go_simp
                  with_reducible rfl
                rotate_left
                · sq3_
                  rfl
                sq32_
                rotate_left
                · intro w'
                  go_simp
                  with_reducible rfl
                rotate_left
                · sq3_
                  rfl
                sq33_
                rotate_left
                · intro w'
                  go_simp
                  with_reducible rfl
                rotate_left
                · sq3_
                  rfl
                sq27_
            · skip
              sq20_
              intro gb135 hg w68 hbox hb
              sq8_
              sq9_
              sq10_
              have n3_ := Aside0.mk (hbox)
              sq21_
              sq22_
              sq23_
              sq24_
              sq25_
              sq26_
              clear BK124
              clear BK125
              clear HB
              have BK124 := n0_
              have BK125 := n1_
              have HB := n2_
              have BK135 := n3_
              have GW135 := n4_
              have GE135 := n5_
              have NB124_135 := n6_
              have NB135_124 := n7_
              have NB125_135 := n8_
              have NB135_125 := n9_
              clear n0_ n1_ n2_ n3_ n4_ n5_ n6_ n7_ n8_ n9_
              clear hb hbox hg
              sq11_
              clear hK K
              refine norm_ (a' := ?_) ?_ ?_
              rotate_left
              · show Act.put _ (some 6) _ = _
                sq3_
                rfl
              sq35_
              sq7_
              with_reducible refine (laws_toRange.calls a0_0 a0_1 t128 t129 _ A19.out).mono ?_
              rintro e w69 ⟨rfl, hb⟩
              refine ⟨_, rfl, ?_⟩
              sq8_
              sq9_
              sq29_
              sq30_
              clear BK124
              clear BK125
              clear BK135
              clear HB
              have BK124 := n0_
              have BK125 := n1_
              have BK135 := n2_
              have HB := n3_
              clear n0_ n1_ n2_ n3_
              (try clear hb)
              (try clear hb2)
              (try clear hk)
              (try clear hi)
              sq11_
              clear hK K
              refine norm_ (a' := ?_) ?_ ?_
              rotate_left
              · show Act.put _ (some 22) _ = _
                sq3_
                rfl
              sq34_
              sq13_
              with_reducible refine (laws_toRange.calls a1_0 a1_1 t130 t131 _ A20.out).mono ?_
              rintro e w70 ⟨rfl, hb⟩
              refine ⟨_, rfl, ?_⟩
              sq8_
              sq9_
              sq29_
              sq30_
              clear BK124
              clear BK125
              clear BK135
              clear HB
              have BK124 := n0_
              have BK125 := n1_
              have BK135 := n2_
              have HB := n3_
              clear n0_ n1_ n2_ n3_
              (try clear hb)
              (try clear hb2)
              (try clear hk)
              (try clear hi)
              sq11_
              clear hK K
              refine norm_ (a' := ?_) ?_ ?_
              rotate_left
              · show Act.put _ (some 24) _ = _
                sq3_
                rfl
              sq28_
              sq15_
              with_reducible refine (spec_RangeBoth.calls k t128 t129 t130 t131 t132 t133 t134 _ A21.out).mono ?_
              rintro e w71 ⟨rfl, hb⟩
              refine ⟨_, rfl, ?_⟩
              sq8_
              sq9_
              sq29_
              sq30_
              clear BK124
              clear BK125
              clear BK135
              clear HB
              have BK124 := n0_
              have BK125 := n1_
              have BK135 := n2_
              have HB := n3_
              clear n0_ n1_ n2_ n3_
              (try clear hb)
              (try clear hb2)
              (try clear hk)
              (try clear hi)
              sq11_
              clear hK K
              refine norm_ (a' := ?_) ?_ ?_
              rotate_left
              · show Act.put _ (some 25) _ = _
                sq3_
                rfl
              sq31_
              rotate_left
              · intro w'
                go_simp
                with_reducible rfl
              rotate_left
              · sq3_
                rfl
              sq32_
              rotate_left
              · intro w'
                go_simp
                with_reducible rfl
              rotate_left
              · sq3_
                rfl
              sq33_
              rotate_left
              · intro w'
                go_simp
                with_reducible rfl
              rotate_left
              · sq3_
                rfl
              sq27_
          rintro gb135 w72 ⟨hS_, h0_, h1_, h2_, h3_, h4_, h5_, h6_, h7_, h8_, h9_⟩
          have n0_ : Aside0 (w72.heap[gb124]? = some (.cells #[.string a0_0, .string a0_1] 23 (0, 0))) := ⟨h0_⟩
          have n1_ : Aside0 (w72.heap[gb125]? = some (.cells #[.string a1_0, .string a1_1] 23 (0, 0))) := ⟨h1_⟩
          have n2_ : Aside0 (w72.heap[gb135]? = some (.cells #[.string (⟨#[]⟩ : ByteArray), .string (⟨#[]⟩ : ByteArray)] 25 (0, 0))) := ⟨h2_⟩
          have n3_ : Aside0 (w.heap.size ≤ gb135) := ⟨h3_⟩
          have n4_ : Aside0 (w.heap.size ≤ gb135) := ⟨h4_⟩
          have n5_ : Aside0 (gb124 ≠ gb135) := ⟨h5_⟩
          have n6_ : Aside0 (gb135 ≠ gb124) := ⟨h6_⟩
          have n7_ : Aside0 (gb125 ≠ gb135) := ⟨h7_⟩
          have n8_ : Aside0 (gb135 ≠ gb125) := ⟨h8_⟩
          have n9_ : Aside0 (Below w.heap.size w w72) := ⟨h9_⟩
          clear BK124
          clear BK125
          clear HB
          clear h0_ h1_ h2_ h3_ h4_ h5_ h6_ h7_ h8_ h9_
          have BK124 := n0_
          have BK125 := n1_
          have BK135 := n2_
          have GW135 := n3_
          have GE135 := n4_
          have NB124_135 := n5_
          have NB135_124 := n6_
          have NB125_135 := n7_
          have NB135_125 := n8_
          have HB := n9_
          clear n0_ n1_ n2_ n3_ n4_ n5_ n6_ n7_ n8_ n9_
          have hHeld : w72.cell? ⟨gb124, 0, none⟩ = some (.string a0_0) ∧ w72.cell? ⟨gb124, 1, none⟩ = some (.string a0_1) ∧ w72.cell? ⟨gb125, 0, none⟩ = some (.string a1_0) ∧ w72.cell? ⟨gb125, 1, none⟩ = some (.string a1_1) := hS_
          refine norm_ (a' := ?_) ?_ ?_
          rotate_left
          · sq36_
            rfl
          sq37_
          have hs73 : w72.cell? ⟨gb135, 0, none⟩ = some (.string (⟨#[]⟩ : ByteArray)) := (blk_cell BK135.out 0).trans rfl
          have hfs73 := blk_frozen BK135.out 0
          have hns73_0 := NB124_135.out
          have hns73_1 := NB125_135.out
          have hms73_0 := NB135_124.out
          have hms73_1 := NB135_125.out
          have hs74 : w72.cell? ⟨gb135, 1, none⟩ = some (.string (⟨#[]⟩ : ByteArray)) := (blk_cell BK135.out 1).trans rfl
          have hfs74 := blk_frozen BK135.out 1
          have hns74_0 := NB124_135.out
          have hns74_1 := NB125_135.out
          have hms74_0 := NB135_124.out
          have hms74_1 := NB135_125.out
          refine skip_ (w1 := ?_) (by rfl) rfl ?_ ?_
          rotate_left
          · go_simp
            rfl
          sq38_
          clear hK K
          sq39_
          rotate_left
          · intro w'
            go_simp
            with_reducible rfl
          rotate_left
          · sq3_
            rfl
          refine done_ (done_of HT_.out (by kernel_rfl)) ?_
          try go_wp2
          have n0_ : Aside0 (((w72.setCell ⟨gb135, 0, none⟩ (.string t132)).setCell ⟨gb135, 1, none⟩ (.string t133)).heap[gb124]? = some (.cells #[.string a0_0, .string a0_1] 23 (0, 0))) := ⟨by (with_reducible repeat (first | refine blk_drewN ?_ _ | refine blk_drew ?_ | refine blk_alloc ?_ _)); refine blk_far ?_ NB124_135.out _; (with_reducible repeat (first | refine blk_drewN ?_ _ | refine blk_drew ?_ | refine blk_alloc ?_ _)); refine blk_far ?_ NB124_135.out _; (with_reducible repeat (first | refine blk_drewN ?_ _ | refine blk_drew ?_ | refine blk_alloc ?_ _)); exact BK124.out⟩
          have n1_ : Aside0 (((w72.setCell ⟨gb135, 0, none⟩ (.string t132)).setCell ⟨gb135, 1, none⟩ (.string t133)).heap[gb125]? = some (.cells #[.string a1_0, .string a1_1] 23 (0, 0))) := ⟨by (with_reducible repeat (first | refine blk_drewN ?_ _ | refine blk_drew ?_ | refine blk_alloc ?_ _)); refine blk_far ?_ NB125_135.out _; (with_reducible repeat (first | refine blk_drewN ?_ _ | refine blk_drew ?_ | refine blk_alloc ?_ _)); refine blk_far ?_ NB125_135.out _; (with_reducible repeat (first | refine blk_drewN ?_ _ | refine blk_drew ?_ | refine blk_alloc ?_ _)); exact BK125.out⟩
          have n2_ : Aside0 (((w72.setCell ⟨gb135, 0, none⟩ (.string t132)).setCell ⟨gb135, 1, none⟩ (.string t133)).heap[gb135]? = some (.cells #[.string t132, .string t133] 25 (0, 0))) := ⟨by (with_reducible repeat (first | refine blk_drewN ?_ _ | refine blk_drew ?_ | refine blk_alloc ?_ _)); refine blk_put (cs := #[.string t132, .string (⟨#[]⟩ : ByteArray)]) ?_ 1 _ rfl; (with_reducible repeat (first | refine blk_drewN ?_ _ | refine blk_drew ?_ | refine blk_alloc ?_ _)); refine blk_put (cs := #[.string (⟨#[]⟩ : ByteArray), .string (⟨#[]⟩ : ByteArray)]) ?_ 0 _ rfl; (with_reducible repeat (first | refine blk_drewN ?_ _ | refine blk_drew ?_ | refine blk_alloc ?_ _)); exact BK135.out⟩
          have n3_ : Aside0 (Below w.heap.size w ((w72.setCell ⟨gb135, 0, none⟩ (.string t132)).setCell ⟨gb135, 1, none⟩ (.string t133))) := ⟨by repeat (first | (with_reducible first | exact HB.out | apply below_alloc | apply pw_below_drewN | apply below_drew1 | refine below_set ?_ GE124.out | refine below_set ?_ GE125.out | refine below_set ?_ GE135.out) | exact HB.out)⟩
          (try clear BK124)
          (try clear BK125)
          (try clear BK135)
          (try clear HB)
          generalize ((w72.setCell ⟨gb135, 0, none⟩ (.string t132)).setCell ⟨gb135, 1, none⟩ (.string t133)) = w75 at n0_ n1_ n2_ n3_ ⊢
          have BK124 := n0_
          have BK125 := n1_
          have BK135 := n2_
          have HB := n3_
          clear n0_ n1_ n2_ n3_
          have n0_ := Aside0.mk (blk_drew BK124.out)
          have n1_ := Aside0.mk (blk_drew BK125.out)
          have n2_ := Aside0.mk (blk_drew BK135.out)
          have n3_ := Aside0.mk (below_drew1 HB.out)
          clear BK124
          clear BK125
          clear BK135
          clear HB
          have BK124 := n0_
          have BK125 := n1_
          have BK135 := n2_
          have HB := n3_
          clear n0_ n1_ n2_ n3_
          sq40_
          generalize w75.drew = w76 at BK124 BK125 BK135 HB hHeld ⊢
          sq41_
          rotate_left
          · rintro w' ⟨s0, s1, s2, s3⟩
            go_simp
            with_reducible rfl
          rotate_left
          · sq3_
            rfl
          sq42_
          rotate_left
          · rintro w' ⟨s0, s1, s2, s3⟩
            go_simp
            with_reducible rfl
          rotate_left
          · sq3_
            rfl
          sq43_
          rotate_left
          · intro hCont
            sq44_
            · skip
              sq7_
              with_reducible refine (laws_toRange.calls a0_0 a0_1 t136 t137 _ A22.out).mono ?_
              rintro e w77 ⟨rfl, hb⟩
              refine ⟨_, rfl, ?_⟩
              sq8_
              sq9_
              sq45_
              sq30_
              clear BK124
              clear BK125
              clear BK135
              clear HB
              have BK124 := n0_
              have BK125 := n1_
              have BK135 := n2_
              have HB := n3_
              clear n0_ n1_ n2_ n3_
              (try clear hb)
              (try clear hb2)
              (try clear hk)
              (try clear hi)
              sq11_
              clear hK K
              refine norm_ (a' := ?_) ?_ ?_
              rotate_left
              · show Act.put _ (some 30) _ = _
                sq3_
                rfl
              sq46_
              · skip
                sq13_
                with_reducible refine (laws_toRange.calls a1_0 a1_1 t138 t139 _ A23.out).mono ?_
                rintro e w78 ⟨rfl, hb⟩
                refine ⟨_, rfl, ?_⟩
                sq8_
                sq9_
                sq45_
                sq30_
                clear BK124
                clear BK125
                clear BK135
                clear HB
                have BK124 := n0_
                have BK125 := n1_
                have BK135 := n2_
                have HB := n3_
                clear n0_ n1_ n2_ n3_
                (try clear hb)
                (try clear hb2)
                (try clear hk)
                (try clear hi)
                sq11_
                clear hK K
                refine norm_ (a' := ?_) ?_ ?_
                rotate_left
                · show Act.put _ (some 32) _ = _
                  sq3_
                  rfl
                sq47_
                · skip
                  sq48_
                  with_reducible refine (impl_RangeBoth.calls k t136 t137 t138 t139 t140 t141 t142 _ A24.out).mono ?_
                  rintro e w79 ⟨rfl, hb⟩
                  refine ⟨_, rfl, ?_⟩
                  sq8_
                  sq9_
                  sq45_
                  sq30_
                  clear BK124
                  clear BK125
                  clear BK135
                  clear HB
                  have BK124 := n0_
                  have BK125 := n1_
                  have BK135 := n2_
                  have HB := n3_
                  clear n0_ n1_ n2_ n3_
                  (try clear hb)
                  (try clear hb2)
                  (try clear hk)
                  (try clear hi)
                  sq11_
                  clear hK K
                  refine norm_ (a' := ?_) ?_ ?_
                  rotate_left
                  · show Act.put _ (some 33) _ = _
                    sq3_
                    rfl
                  sq49_
                  rotate_left
                  · intro w'
                    go_simp
                    with_reducible rfl
                  rotate_left
                  · sq3_
                    rfl
                  sq50_
                  rotate_left
                  · intro w'
                    go_simp
                    with_reducible rfl
                  rotate_left
                  · sq3_
                    rfl
                  sq51_
                  rotate_left
                  · intro w'
                    go_simp
                    with_reducible rfl
                  rotate_left
                  · sq3_
                    rfl
                  sq52_
                  sq53_
                  intro gb143 hg w80 hbox hb
                  sq8_
                  sq9_
                  sq45_
                  sq30_
                  have n4_ := Aside0.mk (hbox)
                  sq54_
                  sq55_
                  sq56_
                  sq57_
                  sq58_
                  sq59_
                  sq60_
                  sq61_
                  clear BK124
                  clear BK125
                  clear BK135
                  clear HB
                  have BK124 := n0_
                  have BK125 := n1_
                  have BK135 := n2_
                  have HB := n3_
                  have BK143 := n4_
                  have GW143 := n5_
                  have GE143 := n6_
                  have NB124_143 := n7_
                  have NB143_124 := n8_
                  have NB125_143 := n9_
                  have NB143_125 := n10_
                  have NB135_143 := n11_
                  have NB143_135 := n12_
                  clear n0_ n1_ n2_ n3_ n4_ n5_ n6_ n7_ n8_ n9_ n10_ n11_ n12_
                  clear hb hbox hg
                  sq11_
                  clear hK K
                  refine norm_ (a' := ?_) ?_ ?_
                  rotate_left
                  · show Act.put _ (some 8) _ = _
                    sq3_
                    rfl
                  sq62_
                · skip
                  sq53_
                  intro gb143 hg w79 hbox hb
                  sq8_
                  sq9_
                  sq45_
                  sq30_
                  have n4_ := Aside0.mk (hbox)
                  sq54_
                  sq55_
                  sq56_
                  sq57_
                  sq58_
                  sq59_
                  sq60_
                  sq61_
                  clear BK124
                  clear BK125
                  clear BK135
                  clear HB
                  have BK124 := n0_
                  have BK125 := n1_
                  have BK135 := n2_
                  have HB := n3_
                  have BK143 := n4_
                  have GW143 := n5_
                  have GE143 := n6_
                  have NB124_143 := n7_
                  have NB143_124 := n8_
                  have NB125_143 := n9_
                  have NB143_125 := n10_
                  have NB135_143 := n11_
                  have NB143_135 := n12_
                  clear n0_ n1_ n2_ n3_ n4_ n5_ n6_ n7_ n8_ n9_ n10_ n11_ n12_
                  clear hb hbox hg
                  sq11_
                  clear hK K
                  refine norm_ (a' := ?_) ?_ ?_
                  rotate_left
                  · show Act.put _ (some 8) _ = _
                    sq3_
                    rfl
                  sq63_
                  sq48_
                  with_reducible refine (impl_RangeBoth.calls k t136 t137 t138 t139 t140 t141 t142 _ A24.out).mono ?_
                  rintro e w80 ⟨rfl, hb⟩
                  refine ⟨_, rfl, ?_⟩
                  sq8_
                  sq9_
                  sq45_
                  sq64_
                  sq65_
                  clear BK124
                  clear BK125
                  clear BK135
                  clear BK143
                  clear HB
                  have BK124 := n0_
                  have BK125 := n1_
                  have BK135 := n2_
                  have BK143 := n3_
                  have HB := n4_
                  clear n0_ n1_ n2_ n3_ n4_
                  (try clear hb)
                  (try clear hb2)
                  (try clear hk)
                  (try clear hi)
                  sq11_
                  clear hK K
                  refine norm_ (a' := ?_) ?_ ?_
                  rotate_left
                  · show Act.put _ (some 33) _ = _
                    sq3_
                    rfl
                  sq66_
                  rotate_left
                  · intro w'
                    go_simp
                    with_reducible rfl
                  rotate_left
                  · sq3_
                    rfl
                  sq67_
                  rotate_left
                  · intro w'
                    go_simp
                    with_reducible rfl
                  rotate_left
                  · sq3_
                    rfl
                  sq68_
                  rotate_left
                  · intro w'
                    go_simp
                    with_reducible rfl
                  rotate_left
                  · sq3_
                    rfl
                  sq62_
              · skip
                sq53_
                intro gb143 hg w78 hbox hb
                sq8_
                sq9_
                sq45_
                sq30_
                have n4_ := Aside0.mk (hbox)
                sq54_
                sq55_
                sq56_
                sq57_
                sq58_
                sq59_
                sq60_
                sq61_
                clear BK124
                clear BK125
                clear BK135
                clear HB
                have BK124 := n0_
                have BK125 := n1_
                have BK135 := n2_
                have HB := n3_
                have BK143 := n4_
                have GW143 := n5_
                have GE143 := n6_
                have NB124_143 := n7_
                have NB143_124 := n8_
                have NB125_143 := n9_
                have NB143_125 := n10_
                have NB135_143 := n11_
                have NB143_135 := n12_
                clear n0_ n1_ n2_ n3_ n4_ n5_ n6_ n7_ n8_ n9_ n10_ n11_ n12_
                clear hb hbox hg
                sq11_
                clear hK K
                refine norm_ (a' := ?_) ?_ ?_
                rotate_left
                · show Act.put _ (some 8) _ = _
                  sq3_
                  rfl
                sq69_
                sq13_
                with_reducible refine (laws_toRange.calls a1_0 a1_1 t138 t139 _ A23.out).mono ?_
                rintro e w79 ⟨rfl, hb⟩
                refine ⟨_, rfl, ?_⟩
                sq8_
                sq9_
                sq45_
                sq64_
                sq65_
                clear BK124
                clear BK125
                clear BK135
                clear BK143
                clear HB
                have BK124 := n0_
                have BK125 := n1_
                have BK135 := n2_
                have BK143 := n3_
                have HB := n4_
                clear n0_ n1_ n2_ n3_ n4_
                (try clear hb)
                (try clear hb2)
                (try clear hk)
                (try clear hi)
                sq11_
                clear hK K
                refine norm_ (a' := ?_) ?_ ?_
                rotate_left
                · show Act.put _ (some 32) _ = _
                  sq3_
                  rfl
                sq63_
                sq48_
                with_reducible refine (impl_RangeBoth.calls k t136 t137 t138 t139 t140 t141 t142 _ A24.out).mono ?_
                rintro e w80 ⟨rfl, hb⟩
                refine ⟨_, rfl, ?_⟩
                sq8_
                sq9_
                sq45_
                sq64_
                sq65_
                clear BK124
                clear BK125
                clear BK135
                clear BK143
                clear HB
                have BK124 := n0_
                have BK125 := n1_
                have BK135 := n2_
                have BK143 := n3_
                have HB := n4_
                clear n0_ n1_ n2_ n3_ n4_
                (try clear hb)
                (try clear hb2)
                (try clear hk)
                (try clear hi)
                sq11_
                clear hK K
                refine norm_ (a' := ?_) ?_ ?_
                rotate_left
                · show Act.put _ (some 33) _ = _
                  sq3_
                  rfl
                sq66_
                rotate_left
                · intro w'
                  go_simp
                  with_reducible rfl
                rotate_left
                · sq3_
                  rfl
                sq67_
                rotate_left
                · intro w'
                  go_simp
                  with_reducible rfl
                rotate_left
                · sq3_
                  rfl
                sq68_
                rotate_left
                · intro w'
                  go_simp
                  with_reducible rfl
                rotate_left
                · sq3_
                  rfl
                sq62_
            · skip
              sq53_
              intro gb143 hg w77 hbox hb
              sq8_
              sq9_
              sq45_
              sq30_
              have n4_ := Aside0.mk (hbox)
              sq54_
              sq55_
              sq56_
              sq57_
              sq58_
              sq59_
              sq60_
              sq61_
              clear BK124
              clear BK125
              clear BK135
              clear HB
              have BK124 := n0_
              have BK125 := n1_
              have BK135 := n2_
              have HB := n3_
              have BK143 := n4_
              have GW143 := n5_
              have GE143 := n6_
              have NB124_143 := n7_
              have NB143_124 := n8_
              have NB125_143 := n9_
              have NB143_125 := n10_
              have NB135_143 := n11_
              have NB143_135 := n12_
              clear n0_ n1_ n2_ n3_ n4_ n5_ n6_ n7_ n8_ n9_ n10_ n11_ n12_
              clear hb hbox hg
              sq11_
              clear hK K
              refine norm_ (a' := ?_) ?_ ?_
              rotate_left
              · show Act.put _ (some 8) _ = _
                sq3_
                rfl
              sq70_
              sq7_
              with_reducible refine (laws_toRange.calls a0_0 a0_1 t136 t137 _ A22.out).mono ?_
              rintro e w78 ⟨rfl, hb⟩
              refine ⟨_, rfl, ?_⟩
              sq8_
              sq9_
              sq45_
              sq64_
              sq65_
              clear BK124
              clear BK125
              clear BK135
              clear BK143
              clear HB
              have BK124 := n0_
              have BK125 := n1_
              have BK135 := n2_
              have BK143 := n3_
              have HB := n4_
              clear n0_ n1_ n2_ n3_ n4_
              (try clear hb)
              (try clear hb2)
              (try clear hk)
              (try clear hi)
              sq11_
              clear hK K
              refine norm_ (a' := ?_) ?_ ?_
              rotate_left
              · show Act.put _ (some 30) _ = _
                sq3_
                rfl
              sq69_
              sq13_
              with_reducible refine (laws_toRange.calls a1_0 a1_1 t138 t139 _ A23.out).mono ?_
              rintro e w79 ⟨rfl, hb⟩
              refine ⟨_, rfl, ?_⟩
              sq8_
              sq9_
              sq45_
              sq64_
              sq65_
              clear BK124
              clear BK125
              clear BK135
              clear BK143
              clear HB
              have BK124 := n0_
              have BK125 := n1_
              have BK135 := n2_
              have BK143 := n3_
              have HB := n4_
              clear n0_ n1_ n2_ n3_ n4_
              (try clear hb)
              (try clear hb2)
              (try clear hk)
              (try clear hi)
              sq11_
              clear hK K
              refine norm_ (a' := ?_) ?_ ?_
              rotate_left
              · show Act.put _ (some 32) _ = _
                sq3_
                rfl
              sq63_
              sq48_
              with_reducible refine (impl_RangeBoth.calls k t136 t137 t138 t139 t140 t141 t142 _ A24.out).mono ?_
              rintro e w80 ⟨rfl, hb⟩
              refine ⟨_, rfl, ?_⟩
              sq8_
              sq9_
              sq45_
              sq64_
              sq65_
              clear BK124
              clear BK125
              clear BK135
              clear BK143
              clear HB
              have BK124 := n0_
              have BK125 := n1_
              have BK135 := n2_
              have BK143 := n3_
              have HB := n4_
              clear n0_ n1_ n2_ n3_ n4_
              (try clear hb)
              (try clear hb2)
              (try clear hk)
              (try clear hi)
              sq11_
              clear hK K
              refine norm_ (a' := ?_) ?_ ?_
              rotate_left
              · show Act.put _ (some 33) _ = _
                sq3_
                rfl
              sq66_
              rotate_left
              · intro w'
                go_simp
                with_reducible rfl
              rotate_left
              · sq3_
                rfl
              sq67_
              rotate_left
              · intro w'
                go_simp
                with_reducible rfl
              rotate_left
              · sq3_
                rfl
              sq68_
              rotate_left
              · intro w'
                go_simp
                with_reducible rfl
              rotate_left
              · sq3_
                rfl
              sq62_
          rintro gb143 w81 ⟨hS_, h0_, h1_, h2_, h3_, h4_, h5_, h6_, h7_, h8_, h9_, h10_, h11_, h12_⟩
          have n0_ : Aside0 (w81.heap[gb124]? = some (.cells #[.string a0_0, .string a0_1] 23 (0, 0))) := ⟨h0_⟩
          have n1_ : Aside0 (w81.heap[gb125]? = some (.cells #[.string a1_0, .string a1_1] 23 (0, 0))) := ⟨h1_⟩
          have n2_ : Aside0 (w81.heap[gb135]? = some (.cells #[.string t132, .string t133] 25 (0, 0))) := ⟨h2_⟩
          have n3_ : Aside0 (w81.heap[gb143]? = some (.cells #[.string (⟨#[]⟩ : ByteArray), .string (⟨#[]⟩ : ByteArray)] 25 (0, 0))) := ⟨h3_⟩
          have n4_ : Aside0 (w.heap.size ≤ gb143) := ⟨h4_⟩
          have n5_ : Aside0 (w.heap.size ≤ gb143) := ⟨h5_⟩
          have n6_ : Aside0 (gb124 ≠ gb143) := ⟨h6_⟩
          have n7_ : Aside0 (gb143 ≠ gb124) := ⟨h7_⟩
          have n8_ : Aside0 (gb125 ≠ gb143) := ⟨h8_⟩
          have n9_ : Aside0 (gb143 ≠ gb125) := ⟨h9_⟩
          have n10_ : Aside0 (gb135 ≠ gb143) := ⟨h10_⟩
          have n11_ : Aside0 (gb143 ≠ gb135) := ⟨h11_⟩
          have n12_ : Aside0 (Below w.heap.size w w81) := ⟨h12_⟩
          clear BK124
          clear BK125
          clear BK135
          clear HB
          clear h0_ h1_ h2_ h3_ h4_ h5_ h6_ h7_ h8_ h9_ h10_ h11_ h12_
          have BK124 := n0_
          have BK125 := n1_
          have BK135 := n2_
          have BK143 := n3_
          have GW143 := n4_
          have GE143 := n5_
          have NB124_143 := n6_
          have NB143_124 := n7_
          have NB125_143 := n8_
          have NB143_125 := n9_
          have NB135_143 := n10_
          have NB143_135 := n11_
          have HB := n12_
          clear n0_ n1_ n2_ n3_ n4_ n5_ n6_ n7_ n8_ n9_ n10_ n11_ n12_
          have hHeld : w81.cell? ⟨gb124, 0, none⟩ = some (.string a0_0) ∧ w81.cell? ⟨gb124, 1, none⟩ = some (.string a0_1) ∧ w81.cell? ⟨gb125, 0, none⟩ = some (.string a1_0) ∧ w81.cell? ⟨gb125, 1, none⟩ = some (.string a1_1) := hS_
          refine norm_ (a' := ?_) ?_ ?_
          rotate_left
          · sq36_
            rfl
          sq37_
          have hs82 : w81.cell? ⟨gb143, 0, none⟩ = some (.string (⟨#[]⟩ : ByteArray)) := (blk_cell BK143.out 0).trans rfl
          have hfs82 := blk_frozen BK143.out 0
          have hns82_0 := NB124_143.out
          have hns82_1 := NB125_143.out
          have hns82_2 := NB135_143.out
          have hms82_0 := NB143_124.out
          have hms82_1 := NB143_125.out
          have hms82_2 := NB143_135.out
          have hs83 : w81.cell? ⟨gb143, 1, none⟩ = some (.string (⟨#[]⟩ : ByteArray)) := (blk_cell BK143.out 1).trans rfl
          have hfs83 := blk_frozen BK143.out 1
          have hns83_0 := NB124_143.out
          have hns83_1 := NB125_143.out
          have hns83_2 := NB135_143.out
          have hms83_0 := NB143_124.out
          have hms83_1 := NB143_125.out
          have hms83_2 := NB143_135.out
          refine skip_ (w1 := ?_) (by rfl) rfl ?_ ?_
          rotate_left
          · go_simp
            rfl
          sq71_
          clear hK K
          sq72_
          rotate_left
          · intro w'
            go_simp
            with_reducible rfl
          rotate_left
          · sq3_
            rfl
          refine done_ (done_of HT_.out (by kernel_rfl)) ?_
          have hnb84 := NB143_124.out
          have hnc84 := NB124_143.out
          have hnb85 := NB143_125.out
          have hnc85 := NB125_143.out
          have hnb86 := NB143_135.out
          have hnc86 := NB135_143.out
          have hcz87_0 : w81.cell? ⟨gb143, 0, none⟩ = some (.string (⟨#[]⟩ : ByteArray)) := (blk_cell BK143.out 0).trans rfl
          have hcz87_1 : w81.cell? ⟨gb143, 1, none⟩ = some (.string (⟨#[]⟩ : ByteArray)) := (blk_cell BK143.out 1).trans rfl
          have hfz87_0 := blk_frozen BK143.out 0
          have hfz87_1 := blk_frozen BK143.out 1
          have hnb88 := NB135_124.out
          have hnc88 := NB124_135.out
          have hnb89 := NB135_125.out
          have hnc89 := NB125_135.out
          have hcz90_0 : w81.cell? ⟨gb135, 0, none⟩ = some (.string t132) := (blk_cell BK135.out 0).trans rfl
          have hcz90_1 : w81.cell? ⟨gb135, 1, none⟩ = some (.string t133) := (blk_cell BK135.out 1).trans rfl
          have hfz90_0 := blk_frozen BK135.out 0
          have hfz90_1 := blk_frozen BK135.out 1
          try go_wp2_with (first | ((with_reducible refine gate_callee (f := 19) rfl ?_); refine goesL_ (some 38) rfl rfl Try.func19 (by kernel_rfl) rfl #[.agg #[.string t140, .string t141], .agg #[.string t132, .string t133]] rfl (by (try simp only [List.map_toArray, List.map_cons, List.map_nil]); first | done | rfl | (simp only [List.length_drop, List.length_take]; rfl)) ?_; (with_reducible refine (laws_eqRange.calls t140 t141 t132 t133 true _ A25.out).mono ?_); rintro e w91 ⟨rfl, hb⟩; refine ⟨_, rfl, ?_⟩; have n0_ := Aside0.mk (blk_below (g := gb124) (o := .cells #[.string a0_0, .string a0_1] 23 (0, 0)) (by (with_reducible repeat (first | refine blk_drewN ?_ _ | refine blk_drew ?_ | refine blk_alloc ?_ _)); refine blk_far ?_ NB124_143.out _; (with_reducible repeat (first | refine blk_drewN ?_ _ | refine blk_drew ?_ | refine blk_alloc ?_ _)); refine blk_far ?_ NB124_143.out _; (with_reducible repeat (first | refine blk_drewN ?_ _ | refine blk_drew ?_ | refine blk_alloc ?_ _)); exact BK124.out) hb); have n1_ := Aside0.mk (blk_below (g := gb125) (o := .cells #[.string a1_0, .string a1_1] 23 (0, 0)) (by (with_reducible repeat (first | refine blk_drewN ?_ _ | refine blk_drew ?_ | refine blk_alloc ?_ _)); refine blk_far ?_ NB125_143.out _; (with_reducible repeat (first | refine blk_drewN ?_ _ | refine blk_drew ?_ | refine blk_alloc ?_ _)); refine blk_far ?_ NB125_143.out _; (with_reducible repeat (first | refine blk_drewN ?_ _ | refine blk_drew ?_ | refine blk_alloc ?_ _)); exact BK125.out) hb); have n2_ := Aside0.mk (blk_below (g := gb135) (o := .cells #[.string t132, .string t133] 25 (0, 0)) (by (with_reducible repeat (first | refine blk_drewN ?_ _ | refine blk_drew ?_ | refine blk_alloc ?_ _)); refine blk_far ?_ NB135_143.out _; (with_reducible repeat (first | refine blk_drewN ?_ _ | refine blk_drew ?_ | refine blk_alloc ?_ _)); refine blk_far ?_ NB135_143.out _; (with_reducible repeat (first | refine blk_drewN ?_ _ | refine blk_drew ?_ | refine blk_alloc ?_ _)); exact BK135.out) hb); have n3_ := Aside0.mk (blk_below (g := gb143) (o := .cells #[.string t140, .string t141] 25 (0, 0)) (by (with_reducible repeat (first | refine blk_drewN ?_ _ | refine blk_drew ?_ | refine blk_alloc ?_ _)); refine blk_put (cs := #[.string t140, .string (⟨#[]⟩ : ByteArray)]) ?_ 1 _ rfl; (with_reducible repeat (first | refine blk_drewN ?_ _ | refine blk_drew ?_ | refine blk_alloc ?_ _)); refine blk_put (cs := #[.string (⟨#[]⟩ : ByteArray), .string (⟨#[]⟩ : ByteArray)]) ?_ 0 _ rfl; (with_reducible repeat (first | refine blk_drewN ?_ _ | refine blk_drew ?_ | refine blk_alloc ?_ _)); exact BK143.out) hb); have n4_ := Aside0.mk (below_step (by repeat (first | (with_reducible first | exact HB.out | apply below_alloc | apply pw_below_drewN | apply below_drew1 | refine below_set ?_ GE124.out | refine below_set ?_ GE125.out | refine below_set ?_ GE135.out | refine below_set ?_ GE143.out) | exact HB.out)) hb); clear BK124; clear BK125; clear BK135; clear BK143; clear HB; have BK124 := n0_; have BK125 := n1_; have BK135 := n2_; have BK143 := n3_; have HB := n4_; clear n0_ n1_ n2_ n3_ n4_; (try clear hb); (try clear hb2); (try clear hk); (try clear hi)))
          go_ret
          sq73_
      · replace c26 := Bool.eq_false_iff.mpr c26
        subst c26
        have H1 : (some false) = some r := by rw [if_neg (show ¬ (false = true) by decide)] at H; exact H
        clear H
        have H := H1
        clear H1
        obtain rfl := Option.some.inj H
        go_enter Try.func3, Try.ntmps3
        try go_wp2_with (first | ((with_reducible refine gate_dst (N := 2) rfl ?_); refine box_event ?hg (N := 2) ?hd (cs := #[.string a0_0, .string a0_1]) (t := 23) ?hr ?_; (case hd => rfl); (case hg => rfl); (case hr => first | (go_simp; done) | (go_simp; rfl)); intro gb124 hg w92 hbox hb; have n0_ := Aside0.mk (below_step (by repeat (first | (with_reducible first | exact HB.out | apply below_alloc | apply pw_below_drewN | apply below_drew1) | exact HB.out)) hb); have n1_ := Aside0.mk (hbox); have n2_ := Aside0.mk ((by rw [hg]; exact (below_size (by repeat (first | (with_reducible first | exact HB.out | apply below_alloc | apply pw_below_drewN | apply below_drew1) | exact HB.out))) : w.heap.size ≤ gb124)); have n3_ := Aside0.mk ((by rw [hg]; exact (below_size (by repeat (first | (with_reducible first | exact HB.out | apply below_alloc | apply pw_below_drewN | apply below_drew1) | exact HB.out))) : w.heap.size ≤ gb124)); clear HB; have HB := n0_; have BK124 := n1_; have GW124 := n2_; have GE124 := n3_; clear n0_ n1_ n2_ n3_; clear hb hbox hg) | ((with_reducible refine gate_dst (N := 3) rfl ?_); refine box_event ?hg (N := 3) ?hd (cs := #[.string a1_0, .string a1_1]) (t := 23) ?hr ?_; (case hd => rfl); (case hg => rfl); (case hr => first | (go_simp; done) | (go_simp; rfl)); intro gb125 hg w93 hbox hb; have n0_ := Aside0.mk (blk_below (g := gb124) (o := .cells #[.string a0_0, .string a0_1] 23 (0, 0)) (by (with_reducible repeat (first | refine blk_drewN ?_ _ | refine blk_drew ?_ | refine blk_alloc ?_ _)); exact BK124.out) hb); have n1_ := Aside0.mk (below_step (by repeat (first | (with_reducible first | exact HB.out | apply below_alloc | apply pw_below_drewN | apply below_drew1 | refine below_set ?_ GE124.out) | exact HB.out)) hb); have n2_ := Aside0.mk (hbox); have n3_ := Aside0.mk ((by rw [hg]; exact (below_size (by repeat (first | (with_reducible first | exact HB.out | apply below_alloc | apply pw_below_drewN | apply below_drew1 | refine below_set ?_ GE124.out) | exact HB.out))) : w.heap.size ≤ gb125)); have n4_ := Aside0.mk ((by rw [hg]; exact (below_size (by repeat (first | (with_reducible first | exact HB.out | apply below_alloc | apply pw_below_drewN | apply below_drew1 | refine below_set ?_ GE124.out) | exact HB.out))) : w.heap.size ≤ gb125)); have n5_ := Aside0.mk ((by rw [hg]; exact Nat.ne_of_lt (blk_lt (g := gb124) (o := .cells #[.string a0_0, .string a0_1] 23 (0, 0)) (by (with_reducible repeat (first | refine blk_drewN ?_ _ | refine blk_drew ?_ | refine blk_alloc ?_ _)); exact BK124.out)) : gb124 ≠ gb125)); have n6_ := Aside0.mk ((by rw [hg]; exact Nat.ne_of_gt (blk_lt (g := gb124) (o := .cells #[.string a0_0, .string a0_1] 23 (0, 0)) (by (with_reducible repeat (first | refine blk_drewN ?_ _ | refine blk_drew ?_ | refine blk_alloc ?_ _)); exact BK124.out)) : gb125 ≠ gb124)); clear BK124; clear HB; have BK124 := n0_; have HB := n1_; have BK125 := n2_; have GW125 := n3_; have GE125 := n4_; have NB124_125 := n5_; have NB125_124 := n6_; clear n0_ n1_ n2_ n3_ n4_ n5_ n6_; clear hb hbox hg; have hnb94 := NB124_125.out; have hnc94 := NB125_124.out; have hcz95_0 : w93.cell? ⟨gb124, 0, none⟩ = some (.string a0_0) := (blk_cell BK124.out 0).trans rfl; have hcz95_1 : w93.cell? ⟨gb124, 1, none⟩ = some (.string a0_1) := (blk_cell BK124.out 1).trans rfl; have hfz95_0 := blk_frozen BK124.out 0; have hfz95_1 := blk_frozen BK124.out 1) | ((with_reducible refine gate_callee (f := 15) rfl ?_); refine goesL_ (some 12) rfl rfl Try.func15 (by kernel_rfl) rfl #[.agg #[.string a0_0, .string a0_1], .int .i64 1048576] rfl (by (try simp only [List.map_toArray, List.map_cons, List.map_nil]); first | done | rfl | (simp only [List.length_drop, List.length_take]; rfl)) ?_; (with_reducible refine (laws_szRange.calls a0_0 a0_1 1048576 t126 _ A3.out).mono ?_); rintro e w96 ⟨rfl, hb⟩; refine ⟨_, rfl, ?_⟩; have n0_ := Aside0.mk (blk_below (g := gb124) (o := .cells #[.string a0_0, .string a0_1] 23 (0, 0)) (by (with_reducible repeat (first | refine blk_drewN ?_ _ | refine blk_drew ?_ | refine blk_alloc ?_ _)); exact BK124.out) hb); have n1_ := Aside0.mk (blk_below (g := gb125) (o := .cells #[.string a1_0, .string a1_1] 23 (0, 0)) (by (with_reducible repeat (first | refine blk_drewN ?_ _ | refine blk_drew ?_ | refine blk_alloc ?_ _)); exact BK125.out) hb); have n2_ := Aside0.mk (below_step (by repeat (first | (with_reducible first | exact HB.out | apply below_alloc | apply pw_below_drewN | apply below_drew1 | refine below_set ?_ GE124.out | refine below_set ?_ GE125.out) | exact HB.out)) hb); clear BK124; clear BK125; clear HB; have BK124 := n0_; have BK125 := n1_; have HB := n2_; clear n0_ n1_ n2_; (try clear hb); (try clear hb2); (try clear hk); (try clear hi); have hcz97_0 : w96.cell? ⟨gb125, 0, none⟩ = some (.string a1_0) := (blk_cell BK125.out 0).trans rfl; have hcz97_1 : w96.cell? ⟨gb125, 1, none⟩ = some (.string a1_1) := (blk_cell BK125.out 1).trans rfl; have hfz97_0 := blk_frozen BK125.out 0; have hfz97_1 := blk_frozen BK125.out 1) | ((with_reducible refine gate_callee (f := 15) rfl ?_); refine goesL_ (some 17) rfl rfl Try.func15 (by kernel_rfl) rfl #[.agg #[.string a1_0, .string a1_1], .int .i64 t126] rfl (by (try simp only [List.map_toArray, List.map_cons, List.map_nil]); first | done | rfl | (simp only [List.length_drop, List.length_take]; rfl)) ?_; (with_reducible refine (laws_szRange.calls a1_0 a1_1 t126 t127 _ A10.out).mono ?_); rintro e w98 ⟨rfl, hb⟩; refine ⟨_, rfl, ?_⟩; have n0_ := Aside0.mk (blk_below (g := gb124) (o := .cells #[.string a0_0, .string a0_1] 23 (0, 0)) (by (with_reducible repeat (first | refine blk_drewN ?_ _ | refine blk_drew ?_ | refine blk_alloc ?_ _)); exact BK124.out) hb); have n1_ := Aside0.mk (blk_below (g := gb125) (o := .cells #[.string a1_0, .string a1_1] 23 (0, 0)) (by (with_reducible repeat (first | refine blk_drewN ?_ _ | refine blk_drew ?_ | refine blk_alloc ?_ _)); exact BK125.out) hb); have n2_ := Aside0.mk (below_step (by repeat (first | (with_reducible first | exact HB.out | apply below_alloc | apply pw_below_drewN | apply below_drew1 | refine below_set ?_ GE124.out | refine below_set ?_ GE125.out) | exact HB.out)) hb); clear BK124; clear BK125; clear HB; have BK124 := n0_; have BK125 := n1_; have HB := n2_; clear n0_ n1_ n2_; (try clear hb); (try clear hb2); (try clear hk); (try clear hi)))
        have n0_ := Aside0.mk (blk_drew BK124.out)
        have n1_ := Aside0.mk (blk_drew BK125.out)
        have n2_ := Aside0.mk (below_drew1 HB.out)
        clear BK124
        clear BK125
        clear HB
        have BK124 := n0_
        have BK125 := n1_
        have HB := n2_
        clear n0_ n1_ n2_
        sq1_
        generalize w98.drew = w99 at BK124 BK125 HB hHeld ⊢
        sq2_
        rotate_left
        · rintro w' ⟨s0, s1, s2, s3⟩
          go_simp
          with_reducible rfl
        rotate_left
        · sq3_
          rfl
        sq4_
        rotate_left
        · rintro w' ⟨s0, s1, s2, s3⟩
          go_simp
          with_reducible rfl
        rotate_left
        · sq3_
          rfl
        sq5_
        rotate_left
        · intro hCont
          sq6_
          · skip
            sq7_
            with_reducible refine (laws_toRange.calls a0_0 a0_1 t128 t129 _ A19.out).mono ?_
            rintro e w100 ⟨rfl, hb⟩
            refine ⟨_, rfl, ?_⟩
            sq8_
            sq9_
            sq10_
            clear BK124
            clear BK125
            clear HB
            have BK124 := n0_
            have BK125 := n1_
            have HB := n2_
            clear n0_ n1_ n2_
            (try clear hb)
            (try clear hb2)
            (try clear hk)
            (try clear hi)
            sq11_
            clear hK K
            refine norm_ (a' := ?_) ?_ ?_
            rotate_left
            · show Act.put _ (some 22) _ = _
              sq3_
              rfl
            sq12_
            · skip
              sq13_
              with_reducible refine (laws_toRange.calls a1_0 a1_1 t130 t131 _ A20.out).mono ?_
              rintro e w101 ⟨rfl, hb⟩
              refine ⟨_, rfl, ?_⟩
              sq8_
              sq9_
              sq10_
              clear BK124
              clear BK125
              clear HB
              have BK124 := n0_
              have BK125 := n1_
              have HB := n2_
              clear n0_ n1_ n2_
              (try clear hb)
              (try clear hb2)
              (try clear hk)
              (try clear hi)
              sq11_
              clear hK K
              refine norm_ (a' := ?_) ?_ ?_
              rotate_left
              · show Act.put _ (some 24) _ = _
                sq3_
                rfl
              sq14_
              · skip
                sq15_
                with_reducible refine (spec_RangeBoth.calls k t128 t129 t130 t131 t132 t133 t134 _ A21.out).mono ?_
                rintro e w102 ⟨rfl, hb⟩
                refine ⟨_, rfl, ?_⟩
                sq8_
                sq9_
                sq10_
                clear BK124
                clear BK125
                clear HB
                have BK124 := n0_
                have BK125 := n1_
                have HB := n2_
                clear n0_ n1_ n2_
                (try clear hb)
                (try clear hb2)
                (try clear hk)
                (try clear hi)
                sq11_
                clear hK K
                refine norm_ (a' := ?_) ?_ ?_
                rotate_left
                · show Act.put _ (some 25) _ = _
                  sq3_
                  rfl
                sq16_
                rotate_left
                · intro w'
                  go_simp
                  with_reducible rfl
                rotate_left
                · sq3_
                  rfl
                sq17_
                rotate_left
                · intro w'
                  go_simp
                  with_reducible rfl
                rotate_left
                · sq3_
                  rfl
                sq18_
                rotate_left
                · intro w'
                  go_simp
                  with_reducible rfl
                rotate_left
                · sq3_
                  rfl
                sq19_
                sq20_
                intro gb135 hg w103 hbox hb
                sq8_
                sq9_
                sq10_
                have n3_ := Aside0.mk (hbox)
                sq21_
                sq22_
                sq23_
                sq24_
                sq25_
                sq26_
                clear BK124
                clear BK125
                clear HB
                have BK124 := n0_
                have BK125 := n1_
                have HB := n2_
                have BK135 := n3_
                have GW135 := n4_
                have GE135 := n5_
                have NB124_135 := n6_
                have NB135_124 := n7_
                have NB125_135 := n8_
                have NB135_125 := n9_
                clear n0_ n1_ n2_ n3_ n4_ n5_ n6_ n7_ n8_ n9_
                clear hb hbox hg
                sq11_
                clear hK K
                refine norm_ (a' := ?_) ?_ ?_
                rotate_left
                · show Act.put _ (some 6) _ = _
                  sq3_
                  rfl
                sq27_
              · skip
                sq20_
                intro gb135 hg w102 hbox hb
                sq8_
                sq9_
                sq10_
                have n3_ := Aside0.mk (hbox)
                sq21_
                sq22_
                sq23_
                sq24_
                sq25_
                sq26_
                clear BK124
                clear BK125
                clear HB
                have BK124 := n0_
                have BK125 := n1_
                have HB := n2_
                have BK135 := n3_
                have GW135 := n4_
                have GE135 := n5_
                have NB124_135 := n6_
                have NB135_124 := n7_
                have NB125_135 := n8_
                have NB135_125 := n9_
                clear n0_ n1_ n2_ n3_ n4_ n5_ n6_ n7_ n8_ n9_
                clear hb hbox hg
                sq11_
                clear hK K
                refine norm_ (a' := ?_) ?_ ?_
                rotate_left
                · show Act.put _ (some 6) _ = _
                  sq3_
                  rfl
                sq28_
                sq15_
                with_reducible refine (spec_RangeBoth.calls k t128 t129 t130 t131 t132 t133 t134 _ A21.out).mono ?_
                rintro e w103 ⟨rfl, hb⟩
                refine ⟨_, rfl, ?_⟩
                sq8_
                sq9_
                sq29_
                sq30_
                clear BK124
                clear BK125
                clear BK135
                clear HB
                have BK124 := n0_
                have BK125 := n1_
                have BK135 := n2_
                have HB := n3_
                clear n0_ n1_ n2_ n3_
                (try clear hb)
                (try clear hb2)
                (try clear hk)
                (try clear hi)
                sq11_
                clear hK K
                refine norm_ (a' := ?_) ?_ ?_
                rotate_left
                · show Act.put _ (some 25) _ = _
                  sq3_
                  rfl
                sq31_
                rotate_left
                · intro w'
                  go_simp
                  with_reducible rfl
                rotate_left
                · sq3_
                  rfl
                sq32_
                rotate_left
                · intro w'
                  go_simp
                  with_reducible rfl
                rotate_left
                · sq3_
                  rfl
                sq33_
                rotate_left
                · intro w'
                  go_simp
                  with_reducible rfl
                rotate_left
                · sq3_
                  rfl
                sq27_
            · skip
              sq20_
              intro gb135 hg w101 hbox hb
              sq8_
              sq9_
              sq10_
              have n3_ := Aside0.mk (hbox)
              sq21_
              sq22_
              sq23_
              sq24_
              sq25_
              sq26_
              clear BK124
              clear BK125
              clear HB
              have BK124 := n0_
              have BK125 := n1_
              have HB := n2_
              have BK135 := n3_
              have GW135 := n4_
              have GE135 := n5_
              have NB124_135 := n6_
              have NB135_124 := n7_
              have NB125_135 := n8_
              have NB135_125 := n9_
              clear n0_ n1_ n2_ n3_ n4_ n5_ n6_ n7_ n8_ n9_
              clear hb hbox hg
              sq11_
              clear hK K
              refine norm_ (a' := ?_) ?_ ?_
              rotate_left
              · show Act.put _ (some 6) _ = _
                sq3_
                rfl
              sq34_
              sq13_
              with_reducible refine (laws_toRange.calls a1_0 a1_1 t130 t131 _ A20.out).mono ?_
              rintro e w102 ⟨rfl, hb⟩
              refine ⟨_, rfl, ?_⟩
              sq8_
              sq9_
              sq29_
              sq30_
              clear BK124
              clear BK125
              clear BK135
              clear HB
              have BK124 := n0_
              have BK125 := n1_
              have BK135 := n2_
              have HB := n3_
              clear n0_ n1_ n2_ n3_
              (try clear hb)
              (try clear hb2)
              (try clear hk)
              (try clear hi)
              sq11_
              clear hK K
              refine norm_ (a' := ?_) ?_ ?_
              rotate_left
              · show Act.put _ (some 24) _ = _
                sq3_
                rfl
              sq28_
              sq15_
              with_reducible refine (spec_RangeBoth.calls k t128 t129 t130 t131 t132 t133 t134 _ A21.out).mono ?_
              rintro e w103 ⟨rfl, hb⟩
              refine ⟨_, rfl, ?_⟩
              sq8_
              sq9_
              sq29_
              sq30_
              clear BK124
              clear BK125
              clear BK135
              clear HB
              have BK124 := n0_
              have BK125 := n1_
              have BK135 := n2_
              have HB := n3_
              clear n0_ n1_ n2_ n3_
              (try clear hb)
              (try clear hb2)
              (try clear hk)
              (try clear hi)
              sq11_
              clear hK K
              refine norm_ (a' := ?_) ?_ ?_
              rotate_left
              · show Act.put _ (some 25) _ = _
                sq3_
                rfl
              sq31_
              rotate_left
              · intro w'
                go_simp
                with_reducible rfl
              rotate_left
              · sq3_
                rfl
              sq32_
              rotate_left
              · intro w'
                go_simp
                with_reducible rfl
              rotate_left
              · sq3_
                rfl
              sq33_
              rotate_left
              · intro w'
                go_simp
                with_reducible rfl
              rotate_left
              · sq3_
                rfl
              sq27_
          · skip
            sq20_
            intro gb135 hg w100 hbox hb
            sq8_
            sq9_
            sq10_
            have n3_ := Aside0.mk (hbox)
            sq21_
            sq22_
            sq23_
            sq24_
            sq25_
            sq26_
            clear BK124
            clear BK125
            clear HB
            have BK124 := n0_
            have BK125 := n1_
            have HB := n2_
            have BK135 := n3_
            have GW135 := n4_
            have GE135 := n5_
            have NB124_135 := n6_
            have NB135_124 := n7_
            have NB125_135 := n8_
            have NB135_125 := n9_
            clear n0_ n1_ n2_ n3_ n4_ n5_ n6_ n7_ n8_ n9_
            clear hb hbox hg
            sq11_
            clear hK K
            refine norm_ (a' := ?_) ?_ ?_
            rotate_left
            · show Act.put _ (some 6) _ = _
              sq3_
              rfl
            sq35_
            sq7_
            with_reducible refine (laws_toRange.calls a0_0 a0_1 t128 t129 _ A19.out).mono ?_
            rintro e w101 ⟨rfl, hb⟩
            refine ⟨_, rfl, ?_⟩
            sq8_
            sq9_
            sq29_
            sq30_
            clear BK124
            clear BK125
            clear BK135
            clear HB
            have BK124 := n0_
            have BK125 := n1_
            have BK135 := n2_
            have HB := n3_
            clear n0_ n1_ n2_ n3_
            (try clear hb)
            (try clear hb2)
            (try clear hk)
            (try clear hi)
            sq11_
            clear hK K
            refine norm_ (a' := ?_) ?_ ?_
            rotate_left
            · show Act.put _ (some 22) _ = _
              sq3_
              rfl
            sq34_
            sq13_
            with_reducible refine (laws_toRange.calls a1_0 a1_1 t130 t131 _ A20.out).mono ?_
            rintro e w102 ⟨rfl, hb⟩
            refine ⟨_, rfl, ?_⟩
            sq8_
            sq9_
            sq29_
            sq30_
            clear BK124
            clear BK125
            clear BK135
            clear HB
            have BK124 := n0_
            have BK125 := n1_
            have BK135 := n2_
            have HB := n3_
            clear n0_ n1_ n2_ n3_
            (try clear hb)
            (try clear hb2)
            (try clear hk)
            (try clear hi)
            sq11_
            clear hK K
            refine norm_ (a' := ?_) ?_ ?_
            rotate_left
            · show Act.put _ (some 24) _ = _
              sq3_
              rfl
            sq28_
            sq15_
            with_reducible refine (spec_RangeBoth.calls k t128 t129 t130 t131 t132 t133 t134 _ A21.out).mono ?_
            rintro e w103 ⟨rfl, hb⟩
            refine ⟨_, rfl, ?_⟩
            sq8_
            sq9_
            sq29_
            sq30_
            clear BK124
            clear BK125
            clear BK135
            clear HB
            have BK124 := n0_
            have BK125 := n1_
            have BK135 := n2_
            have HB := n3_
            clear n0_ n1_ n2_ n3_
            (try clear hb)
            (try clear hb2)
            (try clear hk)
            (try clear hi)
            sq11_
            clear hK K
            refine norm_ (a' := ?_) ?_ ?_
            rotate_left
            · show Act.put _ (some 25) _ = _
              sq3_
              rfl
            sq31_
            rotate_left
            · intro w'
              go_simp
              with_reducible rfl
            rotate_left
            · sq3_
              rfl
            sq32_
            rotate_left
            · intro w'
              go_simp
              with_reducible rfl
            rotate_left
            · sq3_
              rfl
            sq33_
            rotate_left
            · intro w'
              go_simp
              with_reducible rfl
            rotate_left
            · sq3_
              rfl
            sq27_
        rintro gb135 w104 ⟨hS_, h0_, h1_, h2_, h3_, h4_, h5_, h6_, h7_, h8_, h9_⟩
        have n0_ : Aside0 (w104.heap[gb124]? = some (.cells #[.string a0_0, .string a0_1] 23 (0, 0))) := ⟨h0_⟩
        have n1_ : Aside0 (w104.heap[gb125]? = some (.cells #[.string a1_0, .string a1_1] 23 (0, 0))) := ⟨h1_⟩
        have n2_ : Aside0 (w104.heap[gb135]? = some (.cells #[.string (⟨#[]⟩ : ByteArray), .string (⟨#[]⟩ : ByteArray)] 25 (0, 0))) := ⟨h2_⟩
        have n3_ : Aside0 (w.heap.size ≤ gb135) := ⟨h3_⟩
        have n4_ : Aside0 (w.heap.size ≤ gb135) := ⟨h4_⟩
        have n5_ : Aside0 (gb124 ≠ gb135) := ⟨h5_⟩
        have n6_ : Aside0 (gb135 ≠ gb124) := ⟨h6_⟩
        have n7_ : Aside0 (gb125 ≠ gb135) := ⟨h7_⟩
        have n8_ : Aside0 (gb135 ≠ gb125) := ⟨h8_⟩
        have n9_ : Aside0 (Below w.heap.size w w104) := ⟨h9_⟩
        clear BK124
        clear BK125
        clear HB
        clear h0_ h1_ h2_ h3_ h4_ h5_ h6_ h7_ h8_ h9_
        have BK124 := n0_
        have BK125 := n1_
        have BK135 := n2_
        have GW135 := n3_
        have GE135 := n4_
        have NB124_135 := n5_
        have NB135_124 := n6_
        have NB125_135 := n7_
        have NB135_125 := n8_
        have HB := n9_
        clear n0_ n1_ n2_ n3_ n4_ n5_ n6_ n7_ n8_ n9_
        have hHeld : w104.cell? ⟨gb124, 0, none⟩ = some (.string a0_0) ∧ w104.cell? ⟨gb124, 1, none⟩ = some (.string a0_1) ∧ w104.cell? ⟨gb125, 0, none⟩ = some (.string a1_0) ∧ w104.cell? ⟨gb125, 1, none⟩ = some (.string a1_1) := hS_
        refine norm_ (a' := ?_) ?_ ?_
        rotate_left
        · sq36_
          rfl
        sq37_
        have hs105 : w104.cell? ⟨gb135, 0, none⟩ = some (.string (⟨#[]⟩ : ByteArray)) := (blk_cell BK135.out 0).trans rfl
        have hfs105 := blk_frozen BK135.out 0
        have hns105_0 := NB124_135.out
        have hns105_1 := NB125_135.out
        have hms105_0 := NB135_124.out
        have hms105_1 := NB135_125.out
        have hs106 : w104.cell? ⟨gb135, 1, none⟩ = some (.string (⟨#[]⟩ : ByteArray)) := (blk_cell BK135.out 1).trans rfl
        have hfs106 := blk_frozen BK135.out 1
        have hns106_0 := NB124_135.out
        have hns106_1 := NB125_135.out
        have hms106_0 := NB135_124.out
        have hms106_1 := NB135_125.out
        refine skip_ (w1 := ?_) (by rfl) rfl ?_ ?_
        rotate_left
        · go_simp
          rfl
        sq38_
        clear hK K
        sq39_
        rotate_left
        · intro w'
          go_simp
          with_reducible rfl
        rotate_left
        · sq3_
          rfl
        refine done_ (done_of HT_.out (by kernel_rfl)) ?_
        try go_wp2
        have n0_ : Aside0 (((w104.setCell ⟨gb135, 0, none⟩ (.string t132)).setCell ⟨gb135, 1, none⟩ (.string t133)).heap[gb124]? = some (.cells #[.string a0_0, .string a0_1] 23 (0, 0))) := ⟨by (with_reducible repeat (first | refine blk_drewN ?_ _ | refine blk_drew ?_ | refine blk_alloc ?_ _)); refine blk_far ?_ NB124_135.out _; (with_reducible repeat (first | refine blk_drewN ?_ _ | refine blk_drew ?_ | refine blk_alloc ?_ _)); refine blk_far ?_ NB124_135.out _; (with_reducible repeat (first | refine blk_drewN ?_ _ | refine blk_drew ?_ | refine blk_alloc ?_ _)); exact BK124.out⟩
        have n1_ : Aside0 (((w104.setCell ⟨gb135, 0, none⟩ (.string t132)).setCell ⟨gb135, 1, none⟩ (.string t133)).heap[gb125]? = some (.cells #[.string a1_0, .string a1_1] 23 (0, 0))) := ⟨by (with_reducible repeat (first | refine blk_drewN ?_ _ | refine blk_drew ?_ | refine blk_alloc ?_ _)); refine blk_far ?_ NB125_135.out _; (with_reducible repeat (first | refine blk_drewN ?_ _ | refine blk_drew ?_ | refine blk_alloc ?_ _)); refine blk_far ?_ NB125_135.out _; (with_reducible repeat (first | refine blk_drewN ?_ _ | refine blk_drew ?_ | refine blk_alloc ?_ _)); exact BK125.out⟩
        have n2_ : Aside0 (((w104.setCell ⟨gb135, 0, none⟩ (.string t132)).setCell ⟨gb135, 1, none⟩ (.string t133)).heap[gb135]? = some (.cells #[.string t132, .string t133] 25 (0, 0))) := ⟨by (with_reducible repeat (first | refine blk_drewN ?_ _ | refine blk_drew ?_ | refine blk_alloc ?_ _)); refine blk_put (cs := #[.string t132, .string (⟨#[]⟩ : ByteArray)]) ?_ 1 _ rfl; (with_reducible repeat (first | refine blk_drewN ?_ _ | refine blk_drew ?_ | refine blk_alloc ?_ _)); refine blk_put (cs := #[.string (⟨#[]⟩ : ByteArray), .string (⟨#[]⟩ : ByteArray)]) ?_ 0 _ rfl; (with_reducible repeat (first | refine blk_drewN ?_ _ | refine blk_drew ?_ | refine blk_alloc ?_ _)); exact BK135.out⟩
        have n3_ : Aside0 (Below w.heap.size w ((w104.setCell ⟨gb135, 0, none⟩ (.string t132)).setCell ⟨gb135, 1, none⟩ (.string t133))) := ⟨by repeat (first | (with_reducible first | exact HB.out | apply below_alloc | apply pw_below_drewN | apply below_drew1 | refine below_set ?_ GE124.out | refine below_set ?_ GE125.out | refine below_set ?_ GE135.out) | exact HB.out)⟩
        (try clear BK124)
        (try clear BK125)
        (try clear BK135)
        (try clear HB)
        generalize ((w104.setCell ⟨gb135, 0, none⟩ (.string t132)).setCell ⟨gb135, 1, none⟩ (.string t133)) = w107 at n0_ n1_ n2_ n3_ ⊢
        have BK124 := n0_
        have BK125 := n1_
        have BK135 := n2_
        have HB := n3_
        clear n0_ n1_ n2_ n3_
        have n0_ := Aside0.mk (blk_drew BK124.out)
        have n1_ := Aside0.mk (blk_drew BK125.out)
        have n2_ := Aside0.mk (blk_drew BK135.out)
        have n3_ := Aside0.mk (below_drew1 HB.out)
        clear BK124
        clear BK125
        clear BK135
        clear HB
        have BK124 := n0_
        have BK125 := n1_
        have BK135 := n2_
        have HB := n3_
        clear n0_ n1_ n2_ n3_
        sq40_
        generalize w107.drew = w108 at BK124 BK125 BK135 HB hHeld ⊢
        sq41_
        rotate_left
        · rintro w' ⟨s0, s1, s2, s3⟩
          go_simp
          with_reducible rfl
        rotate_left
        · sq3_
          rfl
        sq42_
        rotate_left
        · rintro w' ⟨s0, s1, s2, s3⟩
          go_simp
          with_reducible rfl
        rotate_left
        · sq3_
          rfl
        sq43_
        rotate_left
        · intro hCont
          sq44_
          · skip
            sq7_
            with_reducible refine (laws_toRange.calls a0_0 a0_1 t136 t137 _ A22.out).mono ?_
            rintro e w109 ⟨rfl, hb⟩
            refine ⟨_, rfl, ?_⟩
            sq8_
            sq9_
            sq45_
            sq30_
            clear BK124
            clear BK125
            clear BK135
            clear HB
            have BK124 := n0_
            have BK125 := n1_
            have BK135 := n2_
            have HB := n3_
            clear n0_ n1_ n2_ n3_
            (try clear hb)
            (try clear hb2)
            (try clear hk)
            (try clear hi)
            sq11_
            clear hK K
            refine norm_ (a' := ?_) ?_ ?_
            rotate_left
            · show Act.put _ (some 30) _ = _
              sq3_
              rfl
            sq46_
            · skip
              sq13_
              with_reducible refine (laws_toRange.calls a1_0 a1_1 t138 t139 _ A23.out).mono ?_
              rintro e w110 ⟨rfl, hb⟩
              refine ⟨_, rfl, ?_⟩
              sq8_
              sq9_
              sq45_
              sq30_
              clear BK124
              clear BK125
              clear BK135
              clear HB
              have BK124 := n0_
              have BK125 := n1_
              have BK135 := n2_
              have HB := n3_
              clear n0_ n1_ n2_ n3_
              (try clear hb)
              (try clear hb2)
              (try clear hk)
              (try clear hi)
              sq11_
              clear hK K
              refine norm_ (a' := ?_) ?_ ?_
              rotate_left
              · show Act.put _ (some 32) _ = _
                sq3_
                rfl
              sq47_
              · skip
                sq48_
                with_reducible refine (impl_RangeBoth.calls k t136 t137 t138 t139 t140 t141 t142 _ A24.out).mono ?_
                rintro e w111 ⟨rfl, hb⟩
                refine ⟨_, rfl, ?_⟩
                sq8_
                sq9_
                sq45_
                sq30_
                clear BK124
                clear BK125
                clear BK135
                clear HB
                have BK124 := n0_
                have BK125 := n1_
                have BK135 := n2_
                have HB := n3_
                clear n0_ n1_ n2_ n3_
                (try clear hb)
                (try clear hb2)
                (try clear hk)
                (try clear hi)
                sq11_
                clear hK K
                refine norm_ (a' := ?_) ?_ ?_
                rotate_left
                · show Act.put _ (some 33) _ = _
                  sq3_
                  rfl
                sq49_
                rotate_left
                · intro w'
                  go_simp
                  with_reducible rfl
                rotate_left
                · sq3_
                  rfl
                sq50_
                rotate_left
                · intro w'
                  go_simp
                  with_reducible rfl
                rotate_left
                · sq3_
                  rfl
                sq51_
                rotate_left
                · intro w'
                  go_simp
                  with_reducible rfl
                rotate_left
                · sq3_
                  rfl
                sq52_
                sq53_
                intro gb143 hg w112 hbox hb
                sq8_
                sq9_
                sq45_
                sq30_
                have n4_ := Aside0.mk (hbox)
                sq54_
                sq55_
                sq56_
                sq57_
                sq58_
                sq59_
                sq60_
                sq61_
                clear BK124
                clear BK125
                clear BK135
                clear HB
                have BK124 := n0_
                have BK125 := n1_
                have BK135 := n2_
                have HB := n3_
                have BK143 := n4_
                have GW143 := n5_
                have GE143 := n6_
                have NB124_143 := n7_
                have NB143_124 := n8_
                have NB125_143 := n9_
                have NB143_125 := n10_
                have NB135_143 := n11_
                have NB143_135 := n12_
                clear n0_ n1_ n2_ n3_ n4_ n5_ n6_ n7_ n8_ n9_ n10_ n11_ n12_
                clear hb hbox hg
                sq11_
                clear hK K
                refine norm_ (a' := ?_) ?_ ?_
                rotate_left
                · show Act.put _ (some 8) _ = _
                  sq3_
                  rfl
                sq62_
              · skip
                sq53_
                intro gb143 hg w111 hbox hb
                sq8_
                sq9_
                sq45_
                sq30_
                have n4_ := Aside0.mk (hbox)
                sq54_
                sq55_
                sq56_
                sq57_
                sq58_
                sq59_
                sq60_
                sq61_
                clear BK124
                clear BK125
                clear BK135
                clear HB
                have BK124 := n0_
                have BK125 := n1_
                have BK135 := n2_
                have HB := n3_
                have BK143 := n4_
                have GW143 := n5_
                have GE143 := n6_
                have NB124_143 := n7_
                have NB143_124 := n8_
                have NB125_143 := n9_
                have NB143_125 := n10_
                have NB135_143 := n11_
                have NB143_135 := n12_
                clear n0_ n1_ n2_ n3_ n4_ n5_ n6_ n7_ n8_ n9_ n10_ n11_ n12_
                clear hb hbox hg
                sq11_
                clear hK K
                refine norm_ (a' := ?_) ?_ ?_
                rotate_left
                · show Act.put _ (some 8) _ = _
                  sq3_
                  rfl
                sq63_
                sq48_
                with_reducible refine (impl_RangeBoth.calls k t136 t137 t138 t139 t140 t141 t142 _ A24.out).mono ?_
                rintro e w112 ⟨rfl, hb⟩
                refine ⟨_, rfl, ?_⟩
                sq8_
                sq9_
                sq45_
                sq64_
                sq65_
                clear BK124
                clear BK125
                clear BK135
                clear BK143
                clear HB
                have BK124 := n0_
                have BK125 := n1_
                have BK135 := n2_
                have BK143 := n3_
                have HB := n4_
                clear n0_ n1_ n2_ n3_ n4_
                (try clear hb)
                (try clear hb2)
                (try clear hk)
                (try clear hi)
                sq11_
                clear hK K
                refine norm_ (a' := ?_) ?_ ?_
                rotate_left
                · show Act.put _ (some 33) _ = _
                  sq3_
                  rfl
                sq66_
                rotate_left
                · intro w'
                  go_simp
                  with_reducible rfl
                rotate_left
                · sq3_
                  rfl
                sq67_
                rotate_left
                · intro w'
                  go_simp
                  with_reducible rfl
                rotate_left
                · sq3_
                  rfl
                sq68_
                rotate_left
                · intro w'
                  go_simp
                  with_reducible rfl
                rotate_left
                · sq3_
                  rfl
                sq62_
            · skip
              sq53_
              intro gb143 hg w110 hbox hb
              sq8_
              sq9_
              sq45_
              sq30_
              have n4_ := Aside0.mk (hbox)
              sq54_
              sq55_
              sq56_
              sq57_
              sq58_
              sq59_
              sq60_
              sq61_
              clear BK124
              clear BK125
              clear BK135
              clear HB
              have BK124 := n0_
              have BK125 := n1_
              have BK135 := n2_
              have HB := n3_
              have BK143 := n4_
              have GW143 := n5_
              have GE143 := n6_
              have NB124_143 := n7_
              have NB143_124 := n8_
              have NB125_143 := n9_
              have NB143_125 := n10_
              have NB135_143 := n11_
              have NB143_135 := n12_
              clear n0_ n1_ n2_ n3_ n4_ n5_ n6_ n7_ n8_ n9_ n10_ n11_ n12_
              clear hb hbox hg
              sq11_
              clear hK K
              refine norm_ (a' := ?_) ?_ ?_
              rotate_left
              · show Act.put _ (some 8) _ = _
                sq3_
                rfl
              sq69_
              sq13_
              with_reducible refine (laws_toRange.calls a1_0 a1_1 t138 t139 _ A23.out).mono ?_
              rintro e w111 ⟨rfl, hb⟩
              refine ⟨_, rfl, ?_⟩
              sq8_
              sq9_
              sq45_
              sq64_
              sq65_
              clear BK124
              clear BK125
              clear BK135
              clear BK143
              clear HB
              have BK124 := n0_
              have BK125 := n1_
              have BK135 := n2_
              have BK143 := n3_
              have HB := n4_
              clear n0_ n1_ n2_ n3_ n4_
              (try clear hb)
              (try clear hb2)
              (try clear hk)
              (try clear hi)
              sq11_
              clear hK K
              refine norm_ (a' := ?_) ?_ ?_
              rotate_left
              · show Act.put _ (some 32) _ = _
                sq3_
                rfl
              sq63_
              sq48_
              with_reducible refine (impl_RangeBoth.calls k t136 t137 t138 t139 t140 t141 t142 _ A24.out).mono ?_
              rintro e w112 ⟨rfl, hb⟩
              refine ⟨_, rfl, ?_⟩
              sq8_
              sq9_
              sq45_
              sq64_
              sq65_
              clear BK124
              clear BK125
              clear BK135
              clear BK143
              clear HB
              have BK124 := n0_
              have BK125 := n1_
              have BK135 := n2_
              have BK143 := n3_
              have HB := n4_
              clear n0_ n1_ n2_ n3_ n4_
              (try clear hb)
              (try clear hb2)
              (try clear hk)
              (try clear hi)
              sq11_
              clear hK K
              refine norm_ (a' := ?_) ?_ ?_
              rotate_left
              · show Act.put _ (some 33) _ = _
                sq3_
                rfl
              sq66_
              rotate_left
              · intro w'
                go_simp
                with_reducible rfl
              rotate_left
              · sq3_
                rfl
              sq67_
              rotate_left
              · intro w'
                go_simp
                with_reducible rfl
              rotate_left
              · sq3_
                rfl
              sq68_
              rotate_left
              · intro w'
                go_simp
                with_reducible rfl
              rotate_left
              · sq3_
                rfl
              sq62_
          · skip
            sq53_
            intro gb143 hg w109 hbox hb
            sq8_
            sq9_
            sq45_
            sq30_
            have n4_ := Aside0.mk (hbox)
            sq54_
            sq55_
            sq56_
            sq57_
            sq58_
            sq59_
            sq60_
            sq61_
            clear BK124
            clear BK125
            clear BK135
            clear HB
            have BK124 := n0_
            have BK125 := n1_
            have BK135 := n2_
            have HB := n3_
            have BK143 := n4_
            have GW143 := n5_
            have GE143 := n6_
            have NB124_143 := n7_
            have NB143_124 := n8_
            have NB125_143 := n9_
            have NB143_125 := n10_
            have NB135_143 := n11_
            have NB143_135 := n12_
            clear n0_ n1_ n2_ n3_ n4_ n5_ n6_ n7_ n8_ n9_ n10_ n11_ n12_
            clear hb hbox hg
            sq11_
            clear hK K
            refine norm_ (a' := ?_) ?_ ?_
            rotate_left
            · show Act.put _ (some 8) _ = _
              sq3_
              rfl
            sq70_
            sq7_
            with_reducible refine (laws_toRange.calls a0_0 a0_1 t136 t137 _ A22.out).mono ?_
            rintro e w110 ⟨rfl, hb⟩
            refine ⟨_, rfl, ?_⟩
            sq8_
            sq9_
            sq45_
            sq64_
            sq65_
            clear BK124
            clear BK125
            clear BK135
            clear BK143
            clear HB
            have BK124 := n0_
            have BK125 := n1_
            have BK135 := n2_
            have BK143 := n3_
            have HB := n4_
            clear n0_ n1_ n2_ n3_ n4_
            (try clear hb)
            (try clear hb2)
            (try clear hk)
            (try clear hi)
            sq11_
            clear hK K
            refine norm_ (a' := ?_) ?_ ?_
            rotate_left
            · show Act.put _ (some 30) _ = _
              sq3_
              rfl
            sq69_
            sq13_
            with_reducible refine (laws_toRange.calls a1_0 a1_1 t138 t139 _ A23.out).mono ?_
            rintro e w111 ⟨rfl, hb⟩
            refine ⟨_, rfl, ?_⟩
            sq8_
            sq9_
            sq45_
            sq64_
            sq65_
            clear BK124
            clear BK125
            clear BK135
            clear BK143
            clear HB
            have BK124 := n0_
            have BK125 := n1_
            have BK135 := n2_
            have BK143 := n3_
            have HB := n4_
            clear n0_ n1_ n2_ n3_ n4_
            (try clear hb)
            (try clear hb2)
            (try clear hk)
            (try clear hi)
            sq11_
            clear hK K
            refine norm_ (a' := ?_) ?_ ?_
            rotate_left
            · show Act.put _ (some 32) _ = _
              sq3_
              rfl
            sq63_
            sq48_
            with_reducible refine (impl_RangeBoth.calls k t136 t137 t138 t139 t140 t141 t142 _ A24.out).mono ?_
            rintro e w112 ⟨rfl, hb⟩
            refine ⟨_, rfl, ?_⟩
            sq8_
            sq9_
            sq45_
            sq64_
            sq65_
            clear BK124
            clear BK125
            clear BK135
            clear BK143
            clear HB
            have BK124 := n0_
            have BK125 := n1_
            have BK135 := n2_
            have BK143 := n3_
            have HB := n4_
            clear n0_ n1_ n2_ n3_ n4_
            (try clear hb)
            (try clear hb2)
            (try clear hk)
            (try clear hi)
            sq11_
            clear hK K
            refine norm_ (a' := ?_) ?_ ?_
            rotate_left
            · show Act.put _ (some 33) _ = _
              sq3_
              rfl
            sq66_
            rotate_left
            · intro w'
              go_simp
              with_reducible rfl
            rotate_left
            · sq3_
              rfl
            sq67_
            rotate_left
            · intro w'
              go_simp
              with_reducible rfl
            rotate_left
            · sq3_
              rfl
            sq68_
            rotate_left
            · intro w'
              go_simp
              with_reducible rfl
            rotate_left
            · sq3_
              rfl
            sq62_
        rintro gb143 w113 ⟨hS_, h0_, h1_, h2_, h3_, h4_, h5_, h6_, h7_, h8_, h9_, h10_, h11_, h12_⟩
        have n0_ : Aside0 (w113.heap[gb124]? = some (.cells #[.string a0_0, .string a0_1] 23 (0, 0))) := ⟨h0_⟩
        have n1_ : Aside0 (w113.heap[gb125]? = some (.cells #[.string a1_0, .string a1_1] 23 (0, 0))) := ⟨h1_⟩
        have n2_ : Aside0 (w113.heap[gb135]? = some (.cells #[.string t132, .string t133] 25 (0, 0))) := ⟨h2_⟩
        have n3_ : Aside0 (w113.heap[gb143]? = some (.cells #[.string (⟨#[]⟩ : ByteArray), .string (⟨#[]⟩ : ByteArray)] 25 (0, 0))) := ⟨h3_⟩
        have n4_ : Aside0 (w.heap.size ≤ gb143) := ⟨h4_⟩
        have n5_ : Aside0 (w.heap.size ≤ gb143) := ⟨h5_⟩
        have n6_ : Aside0 (gb124 ≠ gb143) := ⟨h6_⟩
        have n7_ : Aside0 (gb143 ≠ gb124) := ⟨h7_⟩
        have n8_ : Aside0 (gb125 ≠ gb143) := ⟨h8_⟩
        have n9_ : Aside0 (gb143 ≠ gb125) := ⟨h9_⟩
        have n10_ : Aside0 (gb135 ≠ gb143) := ⟨h10_⟩
        have n11_ : Aside0 (gb143 ≠ gb135) := ⟨h11_⟩
        have n12_ : Aside0 (Below w.heap.size w w113) := ⟨h12_⟩
        clear BK124
        clear BK125
        clear BK135
        clear HB
        clear h0_ h1_ h2_ h3_ h4_ h5_ h6_ h7_ h8_ h9_ h10_ h11_ h12_
        have BK124 := n0_
        have BK125 := n1_
        have BK135 := n2_
        have BK143 := n3_
        have GW143 := n4_
        have GE143 := n5_
        have NB124_143 := n6_
        have NB143_124 := n7_
        have NB125_143 := n8_
        have NB143_125 := n9_
        have NB135_143 := n10_
        have NB143_135 := n11_
        have HB := n12_
        clear n0_ n1_ n2_ n3_ n4_ n5_ n6_ n7_ n8_ n9_ n10_ n11_ n12_
        have hHeld : w113.cell? ⟨gb124, 0, none⟩ = some (.string a0_0) ∧ w113.cell? ⟨gb124, 1, none⟩ = some (.string a0_1) ∧ w113.cell? ⟨gb125, 0, none⟩ = some (.string a1_0) ∧ w113.cell? ⟨gb125, 1, none⟩ = some (.string a1_1) := hS_
        refine norm_ (a' := ?_) ?_ ?_
        rotate_left
        · sq36_
          rfl
        sq37_
        have hs114 : w113.cell? ⟨gb143, 0, none⟩ = some (.string (⟨#[]⟩ : ByteArray)) := (blk_cell BK143.out 0).trans rfl
        have hfs114 := blk_frozen BK143.out 0
        have hns114_0 := NB124_143.out
        have hns114_1 := NB125_143.out
        have hns114_2 := NB135_143.out
        have hms114_0 := NB143_124.out
        have hms114_1 := NB143_125.out
        have hms114_2 := NB143_135.out
        have hs115 : w113.cell? ⟨gb143, 1, none⟩ = some (.string (⟨#[]⟩ : ByteArray)) := (blk_cell BK143.out 1).trans rfl
        have hfs115 := blk_frozen BK143.out 1
        have hns115_0 := NB124_143.out
        have hns115_1 := NB125_143.out
        have hns115_2 := NB135_143.out
        have hms115_0 := NB143_124.out
        have hms115_1 := NB143_125.out
        have hms115_2 := NB143_135.out
        refine skip_ (w1 := ?_) (by rfl) rfl ?_ ?_
        rotate_left
        · go_simp
          rfl
        sq71_
        clear hK K
        sq72_
        rotate_left
        · intro w'
          go_simp
          with_reducible rfl
        rotate_left
        · sq3_
          rfl
        refine done_ (done_of HT_.out (by kernel_rfl)) ?_
        have hnb116 := NB143_124.out
        have hnc116 := NB124_143.out
        have hnb117 := NB143_125.out
        have hnc117 := NB125_143.out
        have hnb118 := NB143_135.out
        have hnc118 := NB135_143.out
        have hcz119_0 : w113.cell? ⟨gb143, 0, none⟩ = some (.string (⟨#[]⟩ : ByteArray)) := (blk_cell BK143.out 0).trans rfl
        have hcz119_1 : w113.cell? ⟨gb143, 1, none⟩ = some (.string (⟨#[]⟩ : ByteArray)) := (blk_cell BK143.out 1).trans rfl
        have hfz119_0 := blk_frozen BK143.out 0
        have hfz119_1 := blk_frozen BK143.out 1
        have hnb120 := NB135_124.out
        have hnc120 := NB124_135.out
        have hnb121 := NB135_125.out
        have hnc121 := NB125_135.out
        have hcz122_0 : w113.cell? ⟨gb135, 0, none⟩ = some (.string t132) := (blk_cell BK135.out 0).trans rfl
        have hcz122_1 : w113.cell? ⟨gb135, 1, none⟩ = some (.string t133) := (blk_cell BK135.out 1).trans rfl
        have hfz122_0 := blk_frozen BK135.out 0
        have hfz122_1 := blk_frozen BK135.out 1
        try go_wp2_with (first | ((with_reducible refine gate_callee (f := 19) rfl ?_); refine goesL_ (some 38) rfl rfl Try.func19 (by kernel_rfl) rfl #[.agg #[.string t140, .string t141], .agg #[.string t132, .string t133]] rfl (by (try simp only [List.map_toArray, List.map_cons, List.map_nil]); first | done | rfl | (simp only [List.length_drop, List.length_take]; rfl)) ?_; (with_reducible refine (laws_eqRange.calls t140 t141 t132 t133 false _ A25.out).mono ?_); rintro e w123 ⟨rfl, hb⟩; refine ⟨_, rfl, ?_⟩; have n0_ := Aside0.mk (blk_below (g := gb124) (o := .cells #[.string a0_0, .string a0_1] 23 (0, 0)) (by (with_reducible repeat (first | refine blk_drewN ?_ _ | refine blk_drew ?_ | refine blk_alloc ?_ _)); refine blk_far ?_ NB124_143.out _; (with_reducible repeat (first | refine blk_drewN ?_ _ | refine blk_drew ?_ | refine blk_alloc ?_ _)); refine blk_far ?_ NB124_143.out _; (with_reducible repeat (first | refine blk_drewN ?_ _ | refine blk_drew ?_ | refine blk_alloc ?_ _)); exact BK124.out) hb); have n1_ := Aside0.mk (blk_below (g := gb125) (o := .cells #[.string a1_0, .string a1_1] 23 (0, 0)) (by (with_reducible repeat (first | refine blk_drewN ?_ _ | refine blk_drew ?_ | refine blk_alloc ?_ _)); refine blk_far ?_ NB125_143.out _; (with_reducible repeat (first | refine blk_drewN ?_ _ | refine blk_drew ?_ | refine blk_alloc ?_ _)); refine blk_far ?_ NB125_143.out _; (with_reducible repeat (first | refine blk_drewN ?_ _ | refine blk_drew ?_ | refine blk_alloc ?_ _)); exact BK125.out) hb); have n2_ := Aside0.mk (blk_below (g := gb135) (o := .cells #[.string t132, .string t133] 25 (0, 0)) (by (with_reducible repeat (first | refine blk_drewN ?_ _ | refine blk_drew ?_ | refine blk_alloc ?_ _)); refine blk_far ?_ NB135_143.out _; (with_reducible repeat (first | refine blk_drewN ?_ _ | refine blk_drew ?_ | refine blk_alloc ?_ _)); refine blk_far ?_ NB135_143.out _; (with_reducible repeat (first | refine blk_drewN ?_ _ | refine blk_drew ?_ | refine blk_alloc ?_ _)); exact BK135.out) hb); have n3_ := Aside0.mk (blk_below (g := gb143) (o := .cells #[.string t140, .string t141] 25 (0, 0)) (by (with_reducible repeat (first | refine blk_drewN ?_ _ | refine blk_drew ?_ | refine blk_alloc ?_ _)); refine blk_put (cs := #[.string t140, .string (⟨#[]⟩ : ByteArray)]) ?_ 1 _ rfl; (with_reducible repeat (first | refine blk_drewN ?_ _ | refine blk_drew ?_ | refine blk_alloc ?_ _)); refine blk_put (cs := #[.string (⟨#[]⟩ : ByteArray), .string (⟨#[]⟩ : ByteArray)]) ?_ 0 _ rfl; (with_reducible repeat (first | refine blk_drewN ?_ _ | refine blk_drew ?_ | refine blk_alloc ?_ _)); exact BK143.out) hb); have n4_ := Aside0.mk (below_step (by repeat (first | (with_reducible first | exact HB.out | apply below_alloc | apply pw_below_drewN | apply below_drew1 | refine below_set ?_ GE124.out | refine below_set ?_ GE125.out | refine below_set ?_ GE135.out | refine below_set ?_ GE143.out) | exact HB.out)) hb); clear BK124; clear BK125; clear BK135; clear BK143; clear HB; have BK124 := n0_; have BK125 := n1_; have BK135 := n2_; have BK143 := n3_; have HB := n4_; clear n0_ n1_ n2_ n3_ n4_; (try clear hb); (try clear hb2); (try clear hk); (try clear hi)))
        go_ret
        sq73_

end Go.Proofs.Ytcdnfonholkflaa.PFnExactRangeBoth
