/- The pure statement of FnExactBatchOk: what the printed functions of this law compute answers true, for every argument within the bounds that the statement names. -/
import Derived.Test.YtcdnfonholkflaaPFnExactBatchOkx2
import Derived.Test.YtcdnfonholkflaaLib
import Derived.Test.YtcdnfonholkflaaLibOrd
import Derived.Test.YtcdnfonholkflaaLibOpen
namespace Go.Proofs.Ytcdnfonholkflaa.Pure
open Go Go.RowKit Go.Proofs.Ytcdnfonholkflaa.PFnExactBatchOk Go.Proofs.YtcdnfonholkflaaW.PrintWords Go.Proofs.YtcdnfonholkflaaW.PrintLast Go.Proofs.YtcdnfonholkflaaW.PrintMore Go.Proofs.Ytcdnfonholkflaa.Lib
set_option linter.unusedVariables false
set_option linter.unusedSimpArgs false

def G9 (s : ByteArray) : Prop := s.size ≤ 140737488351232
def G4 (_ : Bool) : Prop := True
def G89 (x : S89) : Prop := G9 x.f0 ∧ G9 x.f1 ∧ G4 x.f2
def G51 (xs : List (S89)) : Prop := xs.length * 40 ≤ 140737488351232 ∧ ∀ x ∈ xs, G89 x

/-! ### within -/
theorem within_eq (x lo hi : Int) : impl_within.f x lo hi = some (decide (lo ≤ x ∧ x ≤ hi)) := by
  unfold impl_within.f
  by_cases h : x ≥ lo
  · rw [if_pos h]; simp [h]
  · rw [if_neg h]; simp; omega

/-! ### keyOk -/
def keyP (s : ByteArray) : Prop := 1 ≤ s.size ∧ s.size ≤ 16
instance (s : ByteArray) : Decidable (keyP s) := inferInstanceAs (Decidable (_ ∧ _))
theorem spec_KeyOk_eq (s : ByteArray) : spec_KeyOk.f s = some (decide (keyP s)) := by
  unfold spec_KeyOk.f
  by_cases h : (s.size : Int) ≥ 1
  · rw [if_pos h]; exact sd (by unfold keyP; omega)
  · rw [if_neg h]; exact sdf (by unfold keyP; omega)
theorem impl_KeyOk_eq (s : ByteArray) : impl_KeyOk.f s = some (decide (keyP s)) := by
  unfold impl_KeyOk.f; rw [within_eq]; simp only [Option.bind_some]; exact sd (by unfold keyP; omega)

/-! ### valOk -/
def valP (s : ByteArray) : Prop := s.size ≤ 60
instance (s : ByteArray) : Decidable (valP s) := inferInstanceAs (Decidable (_ ≤ _))
theorem spec_ValOk_eq (s : ByteArray) : spec_ValOk.f s = some (decide (valP s)) := sd (by unfold valP; omega)
theorem impl_ValOk_eq (s : ByteArray) : impl_ValOk.f s = some (decide (valP s)) := sd (by unfold valP; omega)

/-! ### editS -/
def cv_Edit (x : S89) : S90 := ⟨x.f0, x.f1, x.f2⟩
theorem rds_Edit (l : List S89) {i : Nat} (h : i < l.length) : rd_T89 l (i : Int) = l[i] := by unfold rd_T89; rw [Int.toNat_natCast]; exact getD_lt _ _ h
theorem rdd_Edit (l : List S90) {i : Nat} (h : i < l.length) : rd_T90 l (i : Int) = l[i] := by unfold rd_T90; rw [Int.toNat_natCast]; exact getD_lt _ _ h
theorem toEditS_l0 (l : List S89) (h : l.length ≤ 3518437208780) (d : Nat) : ∀ i : Nat, i + d = l.length →
    Ev (fun k => laws_toEditS.l0 k l ((l.map cv_Edit).take i ++ List.replicate ((l.map cv_Edit).length - i) z90) (i : Int)) (l.map cv_Edit) := by
  have hm : (l.map cv_Edit).length = l.length := List.length_map ..
  induction d with
  | zero =>
    intro i hi
    refine Ev.step1 fun k => ?_
    simp only [laws_toEditS.l0]
    rw [if_neg (by omega), set_last (l.map cv_Edit) _ (by omega)]
  | succ d ih =>
    intro i hi
    refine Ev.step (f := fun k => laws_toEditS.l0 k l ((l.map cv_Edit).take (i + 1) ++ List.replicate ((l.map cv_Edit).length - (i + 1)) z90) ((i + 1 : Nat) : Int)) (fun k => ?_) (ih (i + 1) (by omega))
    simp only [laws_toEditS.l0, laws_toEdit.f]
    rw [if_pos (by omega), if_pos (by omega)]
    simp only [Option.bind_some]
    rw [if_pos (by rw [len_mid _ _ (by omega)]; omega), Int.toNat_natCast, wrS (by omega), set_next (l.map cv_Edit) _ _ i (by omega) (by rw [rds_Edit l (by omega), List.getElem_map]; rfl)]
theorem toEditS_ev (l : List S89) (h : l.length ≤ 3518437208780) : Ev (fun k => laws_toEditS.f k l) (l.map cv_Edit) := by
  unfold laws_toEditS.f
  rw [Int.toNat_natCast]
  simp only [if_pos (show (0 : Int) ≤ l.length by omega), if_pos (show l.length ≤ 7036874417766 by omega)]
  have := toEditS_l0 l h l.length 0 (by omega)
  rw [← set_first, List.length_map] at this
  exact this
theorem eqEdit_self (a0 : ByteArray) (a1 : ByteArray) (a2 : Bool) : laws_eqEdit.f a0 a1 a2 a0 a1 a2 = some true := by unfold laws_eqEdit.f; rw [if_pos rfl, if_pos rfl, if_neg (ne_self _)]
theorem eqEditS_l0 (l : List S90) (h : l.length ≤ 3518437208780) (d : Nat) : ∀ i : Nat, i + d = l.length → Ev (fun k => laws_eqEditS.l0 k l l (i : Int)) true := by
  induction d with
  | zero =>
    intro i hi
    refine Ev.step1 fun k => ?_
    simp only [laws_eqEditS.l0]
    rw [if_neg (by omega)]
  | succ d ih =>
    intro i hi
    refine Ev.step (f := fun k => laws_eqEditS.l0 k l l ((i + 1 : Nat) : Int)) (fun k => ?_) (ih (i + 1) (by omega))
    simp only [laws_eqEditS.l0]
    rw [if_pos (by omega), if_pos (by omega), if_pos (by omega), eqEdit_self]
    simp only [Option.bind_some]
    rw [if_pos trivial, wrS (by omega)]
theorem eqEditS_self (l : List S90) (h : l.length ≤ 3518437208780) : Ev (fun k => laws_eqEditS.f k l l) true := by
  unfold laws_eqEditS.f
  simp only [if_pos trivial]
  exact eqEditS_l0 l h l.length 0 (by omega)
theorem szEdit_some (a0 : ByteArray) (a1 : ByteArray) (a2 : Bool) (n : Int) : ∃ r, laws_szEdit.f a0 a1 a2 n = some r := by
  unfold laws_szEdit.f
  repeat (first | exact ⟨_, rfl⟩ | split)
theorem szEditS_l0 (l : List S89) (h : l.length ≤ 3518437208780) (d : Nat) : ∀ (i : Nat) (n : Int), i + d = l.length → ∃ r, Ev (fun k => laws_szEditS.l0 k l n (i : Int)) r := by
  induction d with
  | zero =>
    intro i n hi
    refine ⟨n, Ev.step1 fun k => ?_⟩
    simp only [laws_szEditS.l0]
    rw [if_neg (by omega)]
  | succ d ih =>
    intro i n hi
    obtain ⟨q, hq⟩ := szEdit_some (rd_T89 l (i : Int)).f0 (rd_T89 l (i : Int)).f1 (rd_T89 l (i : Int)).f2 n
    by_cases c : q < 0
    · refine ⟨-1, Ev.step1 fun k => ?_⟩
      simp only [laws_szEditS.l0]
      rw [if_pos (by omega), if_pos (by omega), hq]
      simp only [Option.bind_some]
      rw [if_pos c]
    · obtain ⟨r, hr⟩ := ih (i + 1) q (by omega)
      refine ⟨r, Ev.step (fun k => ?_) hr⟩
      simp only [laws_szEditS.l0]
      rw [if_pos (by omega), if_pos (by omega), hq]
      simp only [Option.bind_some]
      rw [if_neg c, wrS (by omega)]
theorem szEditS_some (l : List S89) (h : l.length ≤ 3518437208780) (n : Int) : ∃ r, Ev (fun k => laws_szEditS.f k l n) r := by
  unfold laws_szEditS.f
  by_cases c : wrap64 (n - (l.length : Int)) < 0
  · simp only [if_pos c]; exact ⟨_, Ev.now _⟩
  · simp only [if_neg c]; exact szEditS_l0 l h l.length 0 _ (by omega)

/-! ### batchOk -/
abbrev SEdit := S90
def edAt (l : List SEdit) (j : Nat) : SEdit := l.getD j z90
theorem edAt_rd (l : List SEdit) (j : Nat) : rd_T90 l (j : Int) = edAt l j := by unfold rd_T90 edAt; rw [Int.toNat_natCast]
def editP (x : SEdit) : Prop := keyP x.f0 ∧ valP x.f1 ∧ (x.f2 = true → x.f1.toList = [])
def batchOk (l : List SEdit) : Prop := (∀ j, j < l.length → editP (edAt l j)) ∧ l.length ≤ 40
theorem spec_Batch_l0 (l : List SEdit) (h : l.length ≤ 3518437208780) (d : Nat) : ∀ i : Nat, i + d = l.length →
    Ev (fun k => spec_BatchOk.l0 k l (l.length : Int) (i : Int)) (dec (∀ j, i ≤ j → j < l.length → editP (edAt l j))) := by
  induction d with
  | zero =>
    intro i hi
    rw [dec_t (fun j h1 h2 => absurd h1 (by omega))]
    refine Ev.step1 fun k => ?_
    simp only [spec_BatchOk.l0]
    rw [if_neg (by omega)]
  | succ d ih =>
    intro i hi
    by_cases c : editP (edAt l i)
    · rw [dec_eq (q := ∀ j, i + 1 ≤ j → j < l.length → editP (edAt l j)) ⟨fun f j h1 h2 => f j (by omega) h2, fun f j h1 h2 => by
        by_cases e : j = i
        · rw [e]; exact c
        · exact f j (by omega) h2⟩]
      refine Ev.step (f := fun k => spec_BatchOk.l0 k l (l.length : Int) ((i + 1 : Nat) : Int)) (fun k => ?_) (ih (i + 1) (by omega))
      simp only [spec_BatchOk.l0]
      rw [if_pos (by omega), if_pos (by omega), if_pos (by omega), edAt_rd, spec_KeyOk_eq, spec_ValOk_eq]
      simp only [Option.bind_some]
      rw [if_pos (decide_eq_true c.1), if_pos (decide_eq_true c.2.1)]
      by_cases h0 : (edAt l i).f2 = true
      · rw [if_pos h0, if_pos (c.2.2 h0), wrS (by omega)]
      · rw [if_neg h0, wrS (by omega)]
    · rw [dec_f (fun f => c (f i (Nat.le_refl _) (by omega)))]
      refine Ev.step1 fun k => ?_
      simp only [spec_BatchOk.l0]
      rw [if_pos (by omega), if_pos (by omega), if_pos (by omega), edAt_rd, spec_KeyOk_eq, spec_ValOk_eq]
      simp only [Option.bind_some]
      by_cases k1 : keyP (edAt l i).f0
      · rw [if_pos (decide_eq_true k1)]
        by_cases k2 : valP (edAt l i).f1
        · rw [if_pos (decide_eq_true k2)]
          by_cases k3 : (edAt l i).f2 = true
          · rw [if_pos k3, if_neg (fun e => c ⟨k1, k2, fun _ => e⟩)]
          · exact absurd ⟨k1, k2, fun e => absurd e k3⟩ c
        · rw [if_neg (fun e => k2 (of_decide_eq_true e))]
      · rw [if_neg (fun e => k1 (of_decide_eq_true e))]
theorem spec_BatchOk_ev (l : List SEdit) (h : l.length ≤ 3518437208780) : Ev (fun k => spec_BatchOk.f k l) (dec (batchOk l)) := by
  unfold spec_BatchOk.f
  by_cases c : (l.length : Int) > 40
  · simp only [if_pos c]; rw [dec_f (fun f => by have := f.2; omega)]; exact Ev.now _
  · simp only [if_neg c]
    rw [dec_eq (p := batchOk l) (q := ∀ j, 0 ≤ j → j < l.length → editP (edAt l j)) ⟨fun f j _ h => f.1 j h, fun f => ⟨fun j h => f j (by omega) h, by omega⟩⟩]
    exact spec_Batch_l0 l h l.length 0 (by omega)
theorem impl_Batch_l0 (l : List SEdit) (h : l.length ≤ 3518437208780) (d : Nat) : ∀ i : Nat, i + d = l.length →
    Ev (fun k => impl_BatchOk.l0 k l l (l.length : Int) (i : Int)) (dec ((∀ j, i ≤ j → j < l.length → editP (edAt l j)) ∧ l.length ≤ 40)) := by
  induction d with
  | zero =>
    intro i hi
    refine Ev.step1 fun k => ?_
    simp only [impl_BatchOk.l0]
    rw [if_neg (by omega), decide_dec]
    congr 1
    exact dec_eq ⟨fun f => ⟨fun j h1 h2 => absurd h1 (by omega), by omega⟩, fun f => by have := f.2; omega⟩
  | succ d ih =>
    intro i hi
    by_cases c : editP (edAt l i)
    · rw [dec_eq (q := (∀ j, i + 1 ≤ j → j < l.length → editP (edAt l j)) ∧ l.length ≤ 40) ⟨fun f => ⟨fun j h1 h2 => f.1 j (by omega) h2, f.2⟩, fun f => ⟨fun j h1 h2 => by
        by_cases e : j = i
        · rw [e]; exact c
        · exact f.1 j (by omega) h2, f.2⟩⟩]
      refine Ev.step (f := fun k => impl_BatchOk.l0 k l l (l.length : Int) ((i + 1 : Nat) : Int)) (fun k => ?_) (ih (i + 1) (by omega))
      simp only [impl_BatchOk.l0]
      rw [if_pos (by omega), if_pos (by omega), if_pos (by omega), edAt_rd, impl_KeyOk_eq, impl_ValOk_eq]
      simp only [Option.bind_some]
      rw [if_pos (decide_eq_true c.1), if_pos (decide_eq_true c.2.1)]
      by_cases h0 : (edAt l i).f2 = true
      · rw [if_pos h0, if_pos (c.2.2 h0), wrS (by omega)]
      · rw [if_neg h0, wrS (by omega)]
    · rw [dec_f (fun f => c (f.1 i (Nat.le_refl _) (by omega)))]
      refine Ev.step1 fun k => ?_
      simp only [impl_BatchOk.l0]
      rw [if_pos (by omega), if_pos (by omega), if_pos (by omega), edAt_rd, impl_KeyOk_eq, impl_ValOk_eq]
      simp only [Option.bind_some]
      by_cases k1 : keyP (edAt l i).f0
      · rw [if_pos (decide_eq_true k1)]
        by_cases k2 : valP (edAt l i).f1
        · rw [if_pos (decide_eq_true k2)]
          by_cases k3 : (edAt l i).f2 = true
          · rw [if_pos k3, if_neg (fun e => c ⟨k1, k2, fun _ => e⟩)]
          · exact absurd ⟨k1, k2, fun e => absurd e k3⟩ c
        · rw [if_neg (fun e => k2 (of_decide_eq_true e))]
      · rw [if_neg (fun e => k1 (of_decide_eq_true e))]
theorem impl_BatchOk_ev (l : List SEdit) (h : l.length ≤ 3518437208780) : Ev (fun k => impl_BatchOk.f k l) (dec (batchOk l)) := by
  unfold impl_BatchOk.f
  rw [dec_eq (p := batchOk l) (q := (∀ j, 0 ≤ j → j < l.length → editP (edAt l j)) ∧ l.length ≤ 40) ⟨fun f => ⟨fun j _ h => f.1 j h, f.2⟩, fun f => ⟨fun j h => f.1 j (by omega) h, f.2⟩⟩]
  exact impl_Batch_l0 l h l.length 0 (by omega)

/-! ### law_FnExactBatchOk -/
theorem FnExactBatchOk (l0 : List (S89)) (g0 : G51 l0) : ∃ k, laws_FnExactBatchOk.f k l0 = some true := by
  have hl : l0.length ≤ 3518437208780 := by have := g0.1; omega
  have hm : (l0.map cv_Edit).length ≤ 3518437208780 := by rw [List.length_map]; exact hl
  refine Ev.rounds ?_
  unfold laws_FnExactBatchOk.f
  obtain ⟨r, hr⟩ := szEditS_some l0 hl 1048576
  refine Ev.bind hr ?_
  by_cases c : r < 0
  · simp only [if_pos c]; exact Ev.now _
  · simp only [if_neg c]
    refine Ev.bind (toEditS_ev l0 hl) (Ev.bind (spec_BatchOk_ev _ hm) (Ev.bind (toEditS_ev l0 hl) (Ev.bind (impl_BatchOk_ev _ hm) ?_)))
    simp only [if_neg (ne_self _)]
    refine Ev.bind (toEditS_ev l0 hl) (Ev.bind (eqEditS_self _ hm) (Ev.one ?_))
    rw [if_pos rfl]

end Go.Proofs.Ytcdnfonholkflaa.Pure
