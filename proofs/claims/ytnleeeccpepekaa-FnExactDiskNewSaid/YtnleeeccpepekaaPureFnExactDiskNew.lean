/- The pure statement of FnExactDiskNew: what the printed functions of this law compute answers true, for every argument within the bounds that the statement names. -/
import Derived.Test.YtnleeeccpepekaaPFnExactDiskNewx5
import Derived.Test.YtnleeeccpepekaaLib
import Derived.Test.YtnleeeccpepekaaLibOrd
import Derived.Test.YtnleeeccpepekaaLibOpen
import Derived.Test.YtnleeeccpepekaaLibRun
namespace Go.Proofs.Ytnleeeccpepekaa.Pure
open Go Go.RowKit Go.Proofs.Ytnleeeccpepekaa.PFnExactDiskNew Go.Proofs.YtnleeeccpepekaaW.PrintWords Go.Proofs.YtnleeeccpepekaaW.PrintLast Go.Proofs.YtnleeeccpepekaaW.PrintMore Go.Proofs.Ytnleeeccpepekaa.Lib
set_option linter.unusedVariables false
set_option linter.unusedSimpArgs false



/-! ### toByteS -/


/-! ### eqByteS -/
theorem eqByteS_l0 (l : List Int) (h : l.length ≤ 140737488351232) (d : Nat) : ∀ i : Nat, i + d = l.length → Ev (fun k => laws_eqByteS.l0 k l l (i : Int)) true := by
  induction d with
  | zero =>
    intro i hi
    refine Ev.step1 fun k => ?_
    simp only [laws_eqByteS.l0]
    rw [if_neg (by omega)]
  | succ d ih =>
    intro i hi
    refine Ev.step (f := fun k => laws_eqByteS.l0 k l l ((i + 1 : Nat) : Int)) (fun k => ?_) (ih (i + 1) (by omega))
    simp only [laws_eqByteS.l0]
    rw [if_pos (by omega), if_pos (by omega), if_pos (by omega), if_pos trivial, wrS (by omega)]
theorem eqByteS_self (l : List Int) (h : l.length ≤ 140737488351232) : Ev (fun k => laws_eqByteS.f k l l) true := by
  unfold laws_eqByteS.f
  simp only [if_pos trivial]
  exact eqByteS_l0 l h l.length 0 (by omega)

/-! ### szByteS -/


/-! ### sheetS -/
theorem rdd_Sheet (l : List S122) {i : Nat} (h : i < l.length) : rd_T122 l (i : Int) = l[i] := by unfold rd_T122; rw [Int.toNat_natCast]; exact getD_lt _ _ h
def shortD_Sheet (l : List S122) : Prop := ∀ x ∈ l, x.f0.length ≤ 140737488351232
theorem eqSheet_self (b : List Int) (h : b.length ≤ 140737488351232) : Ev (fun k => laws_eqSheet.f k b b) true := by
  unfold laws_eqSheet.f
  try simp only [if_true]
  refine Ev.bind (eqByteS_self b h) (Ev.one ?_)
  rw [if_pos rfl]
theorem eqSheetS_l0 (l : List S122) (h : l.length ≤ 5864062014634) (hs : shortD_Sheet l) (d : Nat) : ∀ i : Nat, i + d = l.length → Ev (fun k => laws_eqSheetS.l0 k l l (i : Int)) true := by
  induction d with
  | zero =>
    intro i hi
    refine Ev.step1 fun k => ?_
    simp only [laws_eqSheetS.l0]
    rw [if_neg (by omega)]
  | succ d ih =>
    intro i hi
    have hlt : i < l.length := by omega
    refine Ev.step (f := fun k => (laws_eqSheet.f k l[i].f0 l[i].f0).bind fun t => (if t = true then (laws_eqSheetS.l0 k l l ((i + 1 : Nat) : Int)) else (some false))) (fun k => ?_) (Ev.bind (eqSheet_self l[i].f0 (hs _ (List.getElem_mem hlt))) ?_)
    · simp only [laws_eqSheetS.l0]
      rw [if_pos (by omega), if_pos (by omega), if_pos (by omega), rdd_Sheet l hlt, wrS (by omega)]
    · simp only [if_true]
      exact ih (i + 1) (by omega)
theorem eqSheetS_self (l : List S122) (h : l.length ≤ 5864062014634) (hs : shortD_Sheet l) : Ev (fun k => laws_eqSheetS.f k l l) true := by
  unfold laws_eqSheetS.f
  simp only [if_pos trivial]
  exact eqSheetS_l0 l h hs l.length 0 (by omega)

/-! ### writeS -/
theorem rdd_Write (l : List S124) {i : Nat} (h : i < l.length) : rd_T124 l (i : Int) = l[i] := by unfold rd_T124; rw [Int.toNat_natCast]; exact getD_lt _ _ h
def shortD_Write (l : List S124) : Prop := ∀ x ∈ l, x.f1.length ≤ 140737488351232
theorem eqWrite_self (a0 : Int) (b : List Int) (h : b.length ≤ 140737488351232) : Ev (fun k => laws_eqWrite.f k a0 b a0 b) true := by
  unfold laws_eqWrite.f
  try simp only [if_true]
  refine Ev.bind (eqByteS_self b h) (Ev.one ?_)
  rw [if_pos rfl]
theorem eqWriteS_l0 (l : List S124) (h : l.length ≤ 4398046510976) (hs : shortD_Write l) (d : Nat) : ∀ i : Nat, i + d = l.length → Ev (fun k => laws_eqWriteS.l0 k l l (i : Int)) true := by
  induction d with
  | zero =>
    intro i hi
    refine Ev.step1 fun k => ?_
    simp only [laws_eqWriteS.l0]
    rw [if_neg (by omega)]
  | succ d ih =>
    intro i hi
    have hlt : i < l.length := by omega
    refine Ev.step (f := fun k => (laws_eqWrite.f k l[i].f0 l[i].f1 l[i].f0 l[i].f1).bind fun t => (if t = true then (laws_eqWriteS.l0 k l l ((i + 1 : Nat) : Int)) else (some false))) (fun k => ?_) (Ev.bind (eqWrite_self l[i].f0 l[i].f1 (hs _ (List.getElem_mem hlt))) ?_)
    · simp only [laws_eqWriteS.l0]
      rw [if_pos (by omega), if_pos (by omega), if_pos (by omega), rdd_Write l hlt, wrS (by omega)]
    · simp only [if_true]
      exact ih (i + 1) (by omega)
theorem eqWriteS_self (l : List S124) (h : l.length ≤ 4398046510976) (hs : shortD_Write l) : Ev (fun k => laws_eqWriteS.f k l l) true := by
  unfold laws_eqWriteS.f
  simp only [if_pos trivial]
  exact eqWriteS_l0 l h hs l.length 0 (by omega)

/-! ### diskS -/
theorem eqDisk_self (ss : List S122) (ds : List S124) (h1 : ss.length ≤ 5864062014634) (h2 : ds.length ≤ 4398046510976) (k1 : shortD_Sheet ss) (k2 : shortD_Write ds) : Ev (fun k => laws_eqDisk.f k ss ds ss ds) true := by
  unfold laws_eqDisk.f
  refine Ev.bind (eqSheetS_self ss h1 k1) ?_
  simp only [if_true]
  refine Ev.bind (eqWriteS_self ds h2 k2) (Ev.one ?_)
  rw [if_pos rfl]

/-! ### heldByteS -/
theorem heldByteS_l0 (n : Nat) (a : Int) (h : n ≤ 140737488351232) (h0 : 0 ≤ a) (h1 : a ≤ 4611686018427387904) (d : Nat) : ∀ i : Nat, i + d = n →
    Ev (fun k => laws_heldByteS.l0 k (pat a n) (a + i) (i : Int)) (a + n) := by
  induction d with
  | zero =>
    intro i hi
    refine Ev.step1 fun k => ?_
    simp only [laws_heldByteS.l0]
    rw [if_neg (by rw [pat_len]; omega), show i = n by omega]
  | succ d ih =>
    intro i hi
    refine Ev.step (f := fun k => laws_heldByteS.l0 k (pat a n) (a + ((i + 1 : Nat) : Int)) ((i + 1 : Nat) : Int)) (fun k => ?_) (ih (i + 1) (by omega))
    simp only [laws_heldByteS.l0]
    rw [if_pos (by rw [pat_len]; omega), if_pos (by omega), if_pos (rd_pat (by omega)), wrS (by omega), wr (by omega) (by omega), show a + (i : Int) + 1 = a + ((i + 1 : Nat) : Int) by omega]
theorem heldByteS_ev (n : Nat) (a : Int) (h : n ≤ 140737488351232) (h0 : 0 ≤ a) (h1 : a ≤ 4611686018427387904) : Ev (fun k => laws_heldByteS.f k (pat a n) a) (a + n) := by
  unfold laws_heldByteS.f
  have := heldByteS_l0 n a h h0 h1 n 0 (by omega)
  simpa using this

/-! ### markSheetS -/
theorem totS_cons (n : Nat) (ns : List Nat) : tot (n :: ns) = n + tot ns := rfl
theorem markS_get : ∀ (l : List S122) (a : Int) (i : Nat) (h : i < l.length) (z : S122), (markS l a).getD i z = ⟨mpat (a + (tot (lens (l.take i)) : Nat)) (l[i]).f0.length⟩
  | [], _, i, h, _ => absurd h (Nat.not_lt_zero _)
  | x :: l, a, 0, h, z => by simp [markS, lens, tot]
  | x :: l, a, i + 1, h, z => by
    have := markS_get l (a + x.f0.length) i (by simpa using h) z
    simp only [markS, List.getD_cons_succ, List.take_succ_cons, List.getElem_cons_succ]
    rw [this]
    have e : a + (x.f0.length : Int) + (tot (lens (l.take i)) : Nat) = a + (tot (lens (x :: l.take i)) : Nat) := by
      show _ = a + ((x.f0.length + tot (lens (l.take i)) : Nat) : Int)
      omega
    rw [e]
theorem tot_take : ∀ (ns : List Nat) (i : Nat) (h : i < ns.length), tot (ns.take (i + 1)) = tot (ns.take i) + ns[i] ∧ tot (ns.take (i + 1)) ≤ tot ns
  | [], i, h => absurd h (Nat.not_lt_zero _)
  | n :: ns, 0, h => by simp [totS_cons, tot]
  | n :: ns, i + 1, h => by
    have := tot_take ns i (by simpa using h)
    simp only [List.take_succ_cons, totS_cons, List.getElem_cons_succ]
    try simp only [List.take_succ_cons] at this
    omega
theorem lens_take (l : List S122) (i : Nat) : lens (l.take i) = (lens l).take i := by unfold lens; rw [List.map_take]
theorem heldSheetS_l0 (l : List S122) (a : Int) (h : l.length ≤ 5864062014634) (hs : shortD_Sheet l) (h0 : 0 ≤ a) (h1 : a + (tot (lens l) : Nat) ≤ 4611686018427387904) (d : Nat) : ∀ i : Nat, i + d = l.length →
    Ev (fun k => laws_heldSheetS.l0 k (markS l a) (a + (tot (lens (l.take i)) : Nat)) (i : Int)) (a + (tot (lens l) : Nat)) := by
  have hm := markS_len l a
  induction d with
  | zero =>
    intro i hi
    refine Ev.step1 fun k => ?_
    simp only [laws_heldSheetS.l0]
    rw [if_neg (by omega), List.take_of_length_le (by omega)]
  | succ d ih =>
    intro i hi
    have hlt : i < l.length := by omega
    have ht := tot_take (lens l) i (by unfold lens; rw [List.length_map]; exact hlt)
    rw [← lens_take, ← lens_take, show (lens l)[i]'(by unfold lens; rw [List.length_map]; exact hlt) = l[i].f0.length by unfold lens; rw [List.getElem_map]] at ht
    have hb := hs _ (List.getElem_mem hlt)
    have he := heldByteS_ev l[i].f0.length (a + (tot (lens (l.take i)) : Nat)) hb (by omega) (by omega)
    refine Ev.step (f := fun k => (laws_heldByteS.f k (pat (a + (tot (lens (l.take i)) : Nat)) l[i].f0.length) (a + (tot (lens (l.take i)) : Nat))).bind fun t => (if t < 0 then (some (-1)) else (laws_heldSheetS.l0 k (markS l a) t ((i + 1 : Nat) : Int)))) (fun k => ?_) (Ev.bind he ?_)
    · simp only [laws_heldSheetS.l0]
      rw [if_pos (by omega), if_pos (by omega), wrS (by omega)]
      unfold rd_T122
      rw [Int.toNat_natCast, markS_get l a i hlt]
      rfl
    · simp only [if_neg (show ¬ (a + ((tot (lens (l.take i)) : Nat) : Int) + (l[i].f0.length : Int) < 0) by omega)]
      have := ih (i + 1) (by omega)
      rw [show a + ((tot (lens (l.take i)) : Nat) : Int) + (l[i].f0.length : Int) = a + ((tot (lens (l.take (i + 1))) : Nat) : Int) by omega]
      exact this
theorem heldSheetS_ev (l : List S122) (a : Int) (h : l.length ≤ 5864062014634) (hs : shortD_Sheet l) (h0 : 0 ≤ a) (h1 : a + (tot (lens l) : Nat) ≤ 4611686018427387904) : Ev (fun k => laws_heldSheetS.f k (markS l a) a) (a + (tot (lens l) : Nat)) := by
  unfold laws_heldSheetS.f
  have := heldSheetS_l0 l a h hs h0 h1 l.length 0 (by omega)
  simpa [lens, tot] using this
theorem markDisk_f (l : List S122) (a : Int) (h : l.length ≤ 5864062014634) (h0 : 0 ≤ a) (h1 : a + (tot (lens l) : Nat) ≤ 4611686018427387904) : laws_markDiskS.f l [] a = some (a + (tot (lens l) : Nat), markS l a, []) := by
  unfold laws_markDiskS.f
  rw [if_pos ⟨h0, h1, by omega, rfl⟩]
theorem heldDisk_ev (l : List S122) (a : Int) (h : l.length ≤ 5864062014634) (hs : shortD_Sheet l) (h0 : 0 ≤ a) (h1 : a + (tot (lens l) : Nat) ≤ 4611686018427387904) : Ev (fun k => laws_heldDisk.f k (markS l a) [] a) (a + (tot (lens l) : Nat)) := by
  unfold laws_heldDisk.f
  refine Ev.bind (heldSheetS_ev l a h hs h0 h1) ?_
  simp only [if_neg (show ¬ (a + ((tot (lens l) : Nat) : Int) < 0) by omega)]
  refine Ev.bind (a := a + ((tot (lens l) : Nat) : Int)) (Ev.step1 fun k => ?_) ?_
  · simp only [laws_heldWriteS.f, laws_heldWriteS.l0]
    rw [if_neg (by simp)]
  · simp only [if_neg (show ¬ (a + ((tot (lens l) : Nat) : Int) < 0) by omega)]
    exact Ev.now _
theorem both_ev {α β : Type} {f : Nat → Option α} {g : Nat → Option β} {r : α} {s : β} (h1 : Ev f r) (h2 : Ev g s) : ∃ k, f k = some r ∧ g k = some s := by
  obtain ⟨n1, h1⟩ := h1
  obtain ⟨n2, h2⟩ := h2
  exact ⟨n1 + n2, h1 _ (by omega), h2 _ (by omega)⟩

/-! ### within -/
theorem within_eq (x lo hi : Int) : impl_within.f x lo hi = some (decide (lo ≤ x ∧ x ≤ hi)) := by
  unfold impl_within.f
  by_cases h : x ≥ lo
  · rw [if_pos h]; simp [h]
  · rw [if_neg h]; simp; omega

/-! ### law_FnExactDiskNew -/
theorem new_short (n : Nat) : shortD_Sheet (List.replicate n z122) := by
  intro x hx
  rw [List.eq_of_mem_replicate hx]
  exact Nat.zero_le _
theorem new_tot : ∀ n : Nat, tot (lens (List.replicate n z122)) = 0
  | 0 => rfl
  | n + 1 => by
    have := new_tot n
    show (z122).f0.length + tot (lens (List.replicate n z122)) = 0
    rw [this]
    rfl
theorem disk_ok (a0 : Int) (n : Nat) (ok : Bool) (hn : n ≤ 400) (e1 : spec_DiskNew.f a0 = some (List.replicate n z122, [], ok)) (e2 : impl_DiskNew.f a0 = some (List.replicate n z122, [], ok)) : laws_FnExactDiskNew.Ok a0 := by
  have ht := new_tot n
  have hl : (List.replicate n z122).length ≤ 5864062014634 := by rw [List.length_replicate]; omega
  have hq := eqDisk_self (List.replicate n z122) [] hl (by simp) (new_short n) (fun x hx => by simp at hx)
  have hd := heldDisk_ev (List.replicate n z122) 1 hl (new_short n) (by omega) (by omega)
  have hm := markDisk_f (List.replicate n z122) 1 hl (by omega) (by omega)
  obtain ⟨k, h1, h2⟩ := both_ev hq hd
  exact ⟨k, _, _, ok, _, _, _, e1, e2, h1, hm, h2, e2, h1, h2, by omega, markS_len _ _, rfl⟩
theorem FnExactDiskNew (a0 : Int) (w0 : (Lit.int .i64 a0).wf = true) : laws_FnExactDiskNew.Ok a0 := by
  by_cases c1 : a0 < 2
  · refine disk_ok a0 0 false (by omega) ?_ ?_
    · unfold spec_DiskNew.f; rw [if_pos c1]; rfl
    · unfold impl_DiskNew.f
      rw [within_eq]
      simp only [Option.bind_some]
      rw [if_neg (by simp; omega)]; rfl
  · by_cases c2 : a0 > 400
    · refine disk_ok a0 0 false (by omega) ?_ ?_
      · unfold spec_DiskNew.f; rw [if_neg c1, if_pos c2]; rfl
      · unfold impl_DiskNew.f
        rw [within_eq]
        simp only [Option.bind_some]
        rw [if_neg (by simp; omega)]; rfl
    · refine disk_ok a0 a0.toNat true (by omega) ?_ ?_
      · unfold spec_DiskNew.f; rw [if_neg c1, if_neg c2, if_pos (by omega), if_pos (by omega)]
      · unfold impl_DiskNew.f
        rw [within_eq]
        simp only [Option.bind_some]
        rw [if_pos (by simp; omega), if_pos (by omega), if_pos (by omega)]

end Go.Proofs.Ytnleeeccpepekaa.Pure
