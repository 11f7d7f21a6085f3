/- The pure statement of FnExactPageOk: what the printed functions of this law compute answers true, for every argument within the bounds that the statement names. -/
import Derived.Test.YtnleeeccpepekaaPFnExactPageOkx5
import Derived.Test.YtnleeeccpepekaaLib
import Derived.Test.YtnleeeccpepekaaLibOrd
import Derived.Test.YtnleeeccpepekaaLibOpen
import Derived.Test.YtnleeeccpepekaaLibRun
namespace Go.Proofs.Ytnleeeccpepekaa.Pure
open Go Go.RowKit Go.Proofs.Ytnleeeccpepekaa.PFnExactPageOk Go.Proofs.YtnleeeccpepekaaW.PrintWords Go.Proofs.YtnleeeccpepekaaW.PrintLast Go.Proofs.YtnleeeccpepekaaW.PrintMore Go.Proofs.Ytnleeeccpepekaa.Lib
set_option linter.unusedVariables false
set_option linter.unusedSimpArgs false

def G9 (s : ByteArray) : Prop := s.size ≤ 140737488351232
def G40 (xs : List (ByteArray)) : Prop := xs.length * 16 ≤ 140737488351232 ∧ ∀ x ∈ xs, G9 x
def G3 (x : Int) : Prop := (Lit.int .i64 x).wf = true
def G41 (xs : List (Int)) : Prop := xs.length * 8 ≤ 140737488351232 ∧ ∀ x ∈ xs, G3 x
def G43 (x : (List (ByteArray)) × (List (ByteArray)) × (List (Int))) : Prop := G40 x.1 ∧ G40 x.2.1 ∧ G41 x.2.2

/-! ### within -/
theorem within_eq (x lo hi : Int) : impl_within.f x lo hi = some (decide (lo ≤ x ∧ x ≤ hi)) := by
  unfold impl_within.f
  by_cases h : x ≥ lo
  · rw [if_pos h]; simp [h]
  · rw [if_neg h]; simp; omega

/-! ### keyOk -/
def keyP (s : ByteArray) : Prop := 1 ≤ s.size ∧ s.size ≤ 16
instance (s : ByteArray) : Decidable (keyP s) := inferInstanceAs (Decidable (_ ∧ _))
theorem spec_KeyOk_eq (s : ByteArray) : spec_KeyOk.f s = some (decide (keyP s)) := by
  unfold spec_KeyOk.f
  by_cases h : (s.size : Int) ≥ 1
  · rw [if_pos h]; exact sd (by unfold keyP; omega)
  · rw [if_neg h]; exact sdf (by unfold keyP; omega)
theorem impl_KeyOk_eq (s : ByteArray) : impl_KeyOk.f s = some (decide (keyP s)) := by
  unfold impl_KeyOk.f; rw [within_eq]; simp only [Option.bind_some]; exact sd (by unfold keyP; omega)

/-! ### stepOk -/
def keyAt (l : List ByteArray) (j : Nat) : ByteArray := l.getD j ByteArray.empty
/-- The key at j is right, and stands behind the one ahead of it. -/
def stepOk (l : List ByteArray) (j : Nat) : Prop := keyP (keyAt l j) ∧ (0 < j → Op.bytesLess (keyAt l (j - 1)).toList (keyAt l j).toList = true)

/-! ### valOk -/
def valP (s : ByteArray) : Prop := s.size ≤ 60
instance (s : ByteArray) : Decidable (valP s) := inferInstanceAs (Decidable (_ ≤ _))
theorem spec_ValOk_eq (s : ByteArray) : spec_ValOk.f s = some (decide (valP s)) := sd (by unfold valP; omega)
theorem impl_ValOk_eq (s : ByteArray) : impl_ValOk.f s = some (decide (valP s)) := sd (by unfold valP; omega)

/-! ### pageOk -/
def kidP (n : Int) : Prop := 2 ≤ n ∧ n ≤ 399
instance (n : Int) : Decidable (kidP n) := inferInstanceAs (Decidable (_ ∧ _))
def pageOk (ks vs : List ByteArray) (cs : List Int) : Prop := (∀ j, j < ks.length → stepOk ks j) ∧
  ((cs.length = 0 ∧ (∀ j, j < vs.length → valP (keyAt vs j)) ∧ 1 ≤ ks.length ∧ ks.length ≤ 4 ∧ vs.length = ks.length) ∨
   (cs.length ≠ 0 ∧ (∀ j : Nat, j < cs.length → kidP (rd cs (j : Int))) ∧ 2 ≤ cs.length ∧ cs.length ≤ 4 ∧ ks.length + 1 = cs.length ∧ vs.length = 0))
set_option linter.unusedSectionVars false
section
variable (ks vs : List ByteArray) (cs : List Int) (hk : ks.length ≤ 8796093021952) (hv : vs.length ≤ 8796093021952) (hc : cs.length ≤ 17592186044032)
include hk hv hc
theorem spec_page_l2 : Ev (fun k => spec_PageOk.l2 k cs (cs.length : Int) 0 ks vs cs) (dec (∀ j : Nat, j < cs.length → kidP (rd cs (j : Int))) && dec (2 ≤ cs.length ∧ cs.length ≤ 4 ∧ ks.length + 1 = cs.length ∧ vs.length = 0)) := by
  refine loop_dec0 (F := fun k i => spec_PageOk.l2 k cs (cs.length : Int) i ks vs cs) (Ev.step1 fun k => ?_) (fun i hi c k => ?_) (fun i hi c k => ?_)
  · simp only [spec_PageOk.l2]
    rw [if_neg (by omega), wr (by omega) (by omega)]
    by_cases c1 : (cs.length : Int) ≥ 2
    · rw [if_pos c1]
      by_cases c2 : (cs.length : Int) ≤ 4
      · rw [if_pos c2]
        by_cases c3 : (ks.length : Int) = (cs.length : Int) - 1
        · rw [if_pos c3]; exact congrArg some ((beq_dec _ _).trans (dec_eq (by omega)))
        · rw [if_neg c3, dec_f (by omega)]
      · rw [if_neg c2, dec_f (by omega)]
    · rw [if_neg c1, dec_f (by omega)]
  · simp only [spec_PageOk.l2]
    unfold kidP at c
    rw [if_pos (by omega), if_pos (by omega), if_pos (by omega), if_neg (by omega), if_neg (by omega), wrS (by omega)]
  · simp only [spec_PageOk.l2]
    unfold kidP at c
    rw [if_pos (by omega), if_pos (by omega), if_pos (by omega)]
    by_cases c1 : rd cs (i : Int) < 2
    · rw [if_pos c1]
    · rw [if_neg c1, if_pos (by omega)]
theorem spec_page_l1 : Ev (fun k => spec_PageOk.l1 k vs (vs.length : Int) 0 ks vs cs) (dec (∀ j, j < vs.length → valP (keyAt vs j)) && dec (1 ≤ ks.length ∧ ks.length ≤ 4 ∧ vs.length = ks.length)) := by
  refine loop_dec0 (F := fun k i => spec_PageOk.l1 k vs (vs.length : Int) i ks vs cs) (Ev.step1 fun k => ?_) (fun i hi c k => ?_) (fun i hi c k => ?_)
  · simp only [spec_PageOk.l1]
    rw [if_neg (by omega)]
    by_cases c1 : (ks.length : Int) ≥ 1
    · rw [if_pos c1]
      by_cases c2 : (ks.length : Int) ≤ 4
      · rw [if_pos c2]; exact congrArg some ((beq_dec _ _).trans (dec_eq (by omega)))
      · rw [if_neg c2, dec_f (by omega)]
    · rw [if_neg c1, dec_f (by omega)]
  · simp only [spec_PageOk.l1]
    rw [if_pos (by omega), if_pos (by omega), if_pos (by omega), rdOf_nat, show vs.getD i ByteArray.empty = keyAt vs i from rfl, spec_ValOk_eq]
    simp only [Option.bind_some]
    rw [if_pos (decide_eq_true c), wrS (by omega)]
  · simp only [spec_PageOk.l1]
    rw [if_pos (by omega), if_pos (by omega), if_pos (by omega), rdOf_nat, show vs.getD i ByteArray.empty = keyAt vs i from rfl, spec_ValOk_eq]
    simp only [Option.bind_some]
    rw [if_neg (fun e => c (of_decide_eq_true e))]
theorem spec_PageOk_ev : Ev (fun k => spec_PageOk.f k ks vs cs) (dec (pageOk ks vs cs)) := by
  unfold spec_PageOk.f
  have e : dec (pageOk ks vs cs) = (dec (∀ j, j < ks.length → stepOk ks j) && dec ((cs.length = 0 ∧ (∀ j, j < vs.length → valP (keyAt vs j)) ∧ 1 ≤ ks.length ∧ ks.length ≤ 4 ∧ vs.length = ks.length) ∨
   (cs.length ≠ 0 ∧ (∀ j : Nat, j < cs.length → kidP (rd cs (j : Int))) ∧ 2 ≤ cs.length ∧ cs.length ≤ 4 ∧ ks.length + 1 = cs.length ∧ vs.length = 0))) := by rw [and_dec]; rfl
  rw [e]
  refine loop_dec0 (F := fun k i => spec_PageOk.l0 k ks (ks.length : Int) i ks vs cs) ?_ (fun i hi c k => ?_) (fun i hi c k => ?_)
  · by_cases c : cs.length = 0
    · have h := spec_page_l1 ks vs cs hk hv hc
      rw [and_dec] at h
      rw [dec_eq (p := _ ∨ _) (q := (∀ j, j < vs.length → valP (keyAt vs j)) ∧ 1 ≤ ks.length ∧ ks.length ≤ 4 ∧ vs.length = ks.length) ⟨fun f => f.elim (fun g => g.2) (fun g => absurd c g.1), fun f => Or.inl ⟨c, f⟩⟩]
      refine Ev.step (fun k => ?_) h
      simp only [spec_PageOk.l0]
      rw [if_neg (by omega), if_pos (by omega)]
    · have h := spec_page_l2 ks vs cs hk hv hc
      rw [and_dec] at h
      rw [dec_eq (p := _ ∨ _) (q := (∀ j : Nat, j < cs.length → kidP (rd cs (j : Int))) ∧ 2 ≤ cs.length ∧ cs.length ≤ 4 ∧ ks.length + 1 = cs.length ∧ vs.length = 0) ⟨fun f => f.elim (fun g => absurd g.1 c) (fun g => g.2), fun f => Or.inr ⟨c, f⟩⟩]
      refine Ev.step (fun k => ?_) h
      simp only [spec_PageOk.l0]
      rw [if_neg (by omega), if_neg (by omega)]
  · simp only [spec_PageOk.l0]
    rw [if_pos (by omega), if_pos (by omega), if_pos (by omega), rdOf_nat, show ks.getD i ByteArray.empty = keyAt ks i from rfl, spec_KeyOk_eq]
    simp only [Option.bind_some]
    rw [if_pos (decide_eq_true c.1)]
    by_cases h0 : (i : Int) > 0
    · have hk2 : rdOf ByteArray.empty ks ((i - 1 : Nat) : Int) = keyAt ks (i - 1) := rdOf_nat _ _ _
      rw [if_pos h0, wrP (by omega) (by omega), if_pos (by omega), if_pos (by omega), hk2, if_pos (c.2 (by omega)), wrS (by omega)]
    · rw [if_neg h0, wrS (by omega)]
  · simp only [spec_PageOk.l0]
    rw [if_pos (by omega), if_pos (by omega), if_pos (by omega), rdOf_nat, show ks.getD i ByteArray.empty = keyAt ks i from rfl, spec_KeyOk_eq]
    simp only [Option.bind_some]
    by_cases c1 : keyP (keyAt ks i)
    · rw [if_pos (decide_eq_true c1)]
      have h0 : 0 < i := by
        rcases Nat.eq_zero_or_pos i with h0 | h0
        · exact absurd ⟨c1, fun h => by omega⟩ c
        · exact h0
      have hk2 : rdOf ByteArray.empty ks ((i - 1 : Nat) : Int) = keyAt ks (i - 1) := rdOf_nat _ _ _
      rw [if_pos (by omega), wrP (by omega) (by omega), if_pos (by omega), if_pos (by omega), hk2, if_neg (fun e => c ⟨c1, fun _ => e⟩)]
    · rw [if_neg (fun e => c1 (of_decide_eq_true e))]
theorem impl_page_l2 : Ev (fun k => impl_PageOk.l2 k cs (cs.length : Int) 0 ks vs cs) (dec (∀ j : Nat, j < cs.length → kidP (rd cs (j : Int))) && dec ((cs.length = 0 ∧ 1 ≤ ks.length ∧ ks.length ≤ 4 ∧ vs.length = ks.length) ∨ (cs.length ≠ 0 ∧ 2 ≤ cs.length ∧ cs.length ≤ 4 ∧ ks.length + 1 = cs.length ∧ vs.length = 0))) := by
  refine loop_dec0 (F := fun k i => impl_PageOk.l2 k cs (cs.length : Int) i ks vs cs) (Ev.step1 fun k => ?_) (fun i hi c k => ?_) (fun i hi c k => ?_)
  · simp only [impl_PageOk.l2]
    rw [if_neg (by omega), wr (by omega) (by omega), within_eq, within_eq]
    simp only [Option.bind_some]
    by_cases c0 : (cs.length : Int) = 0
    · rw [if_pos c0]
      by_cases c1 : (1 : Int) ≤ ks.length ∧ (ks.length : Int) ≤ 4
      · rw [if_pos (decide_eq_true c1)]; exact congrArg some ((beq_dec _ _).trans (dec_eq (by omega)))
      · rw [if_neg (fun e => c1 (of_decide_eq_true e)), dec_f (by omega)]
    · rw [if_neg c0]
      by_cases c1 : (2 : Int) ≤ cs.length ∧ (cs.length : Int) ≤ 4
      · rw [if_pos (decide_eq_true c1)]
        by_cases c3 : (ks.length : Int) = (cs.length : Int) - 1
        · rw [if_pos c3]; exact congrArg some ((beq_dec _ _).trans (dec_eq (by omega)))
        · rw [if_neg c3, dec_f (by omega)]
      · rw [if_neg (fun e => c1 (of_decide_eq_true e)), dec_f (by omega)]
  · simp only [impl_PageOk.l2]
    rw [if_pos (by omega), if_pos (by omega), if_pos (by omega), within_eq]
    simp only [Option.bind_some]
    rw [if_pos (decide_eq_true (show 2 ≤ rd cs (i : Int) ∧ rd cs (i : Int) ≤ 399 from c)), wrS (by omega)]
  · simp only [impl_PageOk.l2]
    rw [if_pos (by omega), if_pos (by omega), if_pos (by omega), within_eq]
    simp only [Option.bind_some]
    rw [if_neg (fun e => c (show 2 ≤ rd cs (i : Int) ∧ rd cs (i : Int) ≤ 399 from of_decide_eq_true e))]
theorem impl_page_l1 : Ev (fun k => impl_PageOk.l1 k vs (vs.length : Int) 0 ks vs cs) (dec (∀ j, j < vs.length → valP (keyAt vs j)) && (dec (∀ j : Nat, j < cs.length → kidP (rd cs (j : Int))) && dec ((cs.length = 0 ∧ 1 ≤ ks.length ∧ ks.length ≤ 4 ∧ vs.length = ks.length) ∨ (cs.length ≠ 0 ∧ 2 ≤ cs.length ∧ cs.length ≤ 4 ∧ ks.length + 1 = cs.length ∧ vs.length = 0)))) := by
  refine loop_dec0 (F := fun k i => impl_PageOk.l1 k vs (vs.length : Int) i ks vs cs) (Ev.step (fun k => ?_) (impl_page_l2 ks vs cs hk hv hc)) (fun i hi c k => ?_) (fun i hi c k => ?_)
  · simp only [impl_PageOk.l1]
    rw [if_neg (by omega)]
  · simp only [impl_PageOk.l1]
    rw [if_pos (by omega), if_pos (by omega), if_pos (by omega), rdOf_nat, show vs.getD i ByteArray.empty = keyAt vs i from rfl, impl_ValOk_eq]
    simp only [Option.bind_some]
    rw [if_pos (decide_eq_true c), wrS (by omega)]
  · simp only [impl_PageOk.l1]
    rw [if_pos (by omega), if_pos (by omega), if_pos (by omega), rdOf_nat, show vs.getD i ByteArray.empty = keyAt vs i from rfl, impl_ValOk_eq]
    simp only [Option.bind_some]
    rw [if_neg (fun e => c (of_decide_eq_true e))]
theorem impl_PageOk_ev : Ev (fun k => impl_PageOk.f k ks vs cs) (dec (pageOk ks vs cs)) := by
  unfold impl_PageOk.f
  have e : dec (pageOk ks vs cs) = (dec (∀ j, j < ks.length → stepOk ks j) && (dec (∀ j, j < vs.length → valP (keyAt vs j)) && (dec (∀ j : Nat, j < cs.length → kidP (rd cs (j : Int))) && dec ((cs.length = 0 ∧ 1 ≤ ks.length ∧ ks.length ≤ 4 ∧ vs.length = ks.length) ∨ (cs.length ≠ 0 ∧ 2 ≤ cs.length ∧ cs.length ≤ 4 ∧ ks.length + 1 = cs.length ∧ vs.length = 0))))) := by
    rw [and_dec, and_dec, and_dec]
    refine dec_eq ⟨?_, ?_⟩
    · rintro ⟨h1, h | h⟩
      · exact ⟨h1, h.2.1, fun j hj => by omega, .inl ⟨h.1, h.2.2⟩⟩
      · exact ⟨h1, fun j hj => by omega, h.2.1, .inr ⟨h.1, h.2.2⟩⟩
    · rintro ⟨h1, h2, h3, h | h⟩
      · exact ⟨h1, .inl ⟨h.1, h2, h.2⟩⟩
      · exact ⟨h1, .inr ⟨h.1, h3, h.2⟩⟩
  rw [e]
  refine loop_dec0 (F := fun k i => impl_PageOk.l0 k ks (ks.length : Int) i ks vs cs) (Ev.step (fun k => ?_) (impl_page_l1 ks vs cs hk hv hc)) (fun i hi c k => ?_) (fun i hi c k => ?_)
  · simp only [impl_PageOk.l0]
    rw [if_neg (by omega)]
  · simp only [impl_PageOk.l0]
    rw [if_pos (by omega), if_pos (by omega), if_pos (by omega), rdOf_nat, show ks.getD i ByteArray.empty = keyAt ks i from rfl, impl_KeyOk_eq]
    simp only [Option.bind_some]
    rw [if_pos (decide_eq_true c.1)]
    by_cases h0 : (i : Int) > 0
    · have hk2 : rdOf ByteArray.empty ks ((i - 1 : Nat) : Int) = keyAt ks (i - 1) := rdOf_nat _ _ _
      rw [if_pos h0, wrP (by omega) (by omega), if_pos (by omega), if_pos (by omega), hk2, if_pos (c.2 (by omega)), wrS (by omega)]
    · rw [if_neg h0, wrS (by omega)]
  · simp only [impl_PageOk.l0]
    rw [if_pos (by omega), if_pos (by omega), if_pos (by omega), rdOf_nat, show ks.getD i ByteArray.empty = keyAt ks i from rfl, impl_KeyOk_eq]
    simp only [Option.bind_some]
    by_cases c1 : keyP (keyAt ks i)
    · rw [if_pos (decide_eq_true c1)]
      have h0 : 0 < i := by
        rcases Nat.eq_zero_or_pos i with h0 | h0
        · exact absurd ⟨c1, fun h => by omega⟩ c
        · exact h0
      have hk2 : rdOf ByteArray.empty ks ((i - 1 : Nat) : Int) = keyAt ks (i - 1) := rdOf_nat _ _ _
      rw [if_pos (by omega), wrP (by omega) (by omega), if_pos (by omega), if_pos (by omega), hk2, if_neg (fun e => c ⟨c1, fun _ => e⟩)]
    · rw [if_neg (fun e => c1 (of_decide_eq_true e))]
end

/-! ### stringS -/
theorem toStringS_l0 (l : List ByteArray) (h : l.length ≤ 8796093021952) (d : Nat) : ∀ i : Nat, i + d = l.length →
    Ev (fun k => laws_toStringS.l0 k l (l.take i ++ List.replicate (l.length - i) (⟨#[]⟩ : ByteArray)) (i : Int)) l := by
  induction d with
  | zero =>
    intro i hi
    refine Ev.step1 fun k => ?_
    simp only [laws_toStringS.l0]
    rw [if_neg (by omega), set_last l _ (by omega)]
  | succ d ih =>
    intro i hi
    refine Ev.step (f := fun k => laws_toStringS.l0 k l (l.take (i + 1) ++ List.replicate (l.length - (i + 1)) (⟨#[]⟩ : ByteArray)) ((i + 1 : Nat) : Int)) (fun k => ?_) (ih (i + 1) (by omega))
    simp only [laws_toStringS.l0]
    rw [if_pos (by omega), if_pos (by omega), if_pos (by rw [len_mid _ _ (by omega)]; omega), Int.toNat_natCast, wrS (by omega), rdOf_nat, set_next l _ _ i (by omega) (getD_lt _ _ (by omega))]
theorem toStringS_ev (l : List ByteArray) (h : l.length ≤ 8796093021952) : Ev (fun k => laws_toStringS.f k l) l := by
  unfold laws_toStringS.f
  rw [Int.toNat_natCast]
  simp only [if_pos (show (0 : Int) ≤ l.length by omega), if_pos (show l.length ≤ 17592186044416 by omega)]
  rw [set_first]
  exact toStringS_l0 l h l.length 0 (by omega)
theorem eqStringS_l0 (l : List ByteArray) (h : l.length ≤ 8796093021952) (d : Nat) : ∀ i : Nat, i + d = l.length → Ev (fun k => laws_eqStringS.l0 k l l (i : Int)) true := by
  induction d with
  | zero =>
    intro i hi
    refine Ev.step1 fun k => ?_
    simp only [laws_eqStringS.l0]
    rw [if_neg (by omega)]
  | succ d ih =>
    intro i hi
    refine Ev.step (f := fun k => laws_eqStringS.l0 k l l ((i + 1 : Nat) : Int)) (fun k => ?_) (ih (i + 1) (by omega))
    simp only [laws_eqStringS.l0]
    rw [if_pos (by omega), if_pos (by omega), if_pos (by omega), if_pos trivial, wrS (by omega)]
theorem eqStringS_self (l : List ByteArray) (h : l.length ≤ 8796093021952) : Ev (fun k => laws_eqStringS.f k l l) true := by
  unfold laws_eqStringS.f
  simp only [if_pos trivial]
  exact eqStringS_l0 l h l.length 0 (by omega)
theorem szStringS_l0 (l : List ByteArray) (h : l.length ≤ 8796093021952) (d : Nat) : ∀ (i : Nat) (n : Int), i + d = l.length → ∃ r, Ev (fun k => laws_szStringS.l0 k l n (i : Int)) r := by
  induction d with
  | zero =>
    intro i n hi
    refine ⟨n, Ev.step1 fun k => ?_⟩
    simp only [laws_szStringS.l0]
    rw [if_neg (by omega)]
  | succ d ih =>
    intro i n hi
    by_cases c : wrap64 (n - ((rdOf ByteArray.empty l (i : Int)).size : Int)) < 0
    · refine ⟨-1, Ev.step1 fun k => ?_⟩
      simp only [laws_szStringS.l0]
      rw [if_pos (by omega), if_pos (by omega), if_pos c]
    · obtain ⟨r, hr⟩ := ih (i + 1) (wrap64 (n - ((rdOf ByteArray.empty l (i : Int)).size : Int))) (by omega)
      refine ⟨r, Ev.step (fun k => ?_) hr⟩
      simp only [laws_szStringS.l0]
      rw [if_pos (by omega), if_pos (by omega), if_neg c, wrS (by omega)]
theorem szStringS_some (l : List ByteArray) (h : l.length ≤ 8796093021952) (n : Int) : ∃ r, Ev (fun k => laws_szStringS.f k l n) r := by
  unfold laws_szStringS.f
  by_cases c : wrap64 (n - (l.length : Int)) < 0
  · simp only [if_pos c]; exact ⟨_, Ev.now _⟩
  · simp only [if_neg c]; exact szStringS_l0 l h l.length 0 _ (by omega)

/-! ### intS -/
theorem toIntS_l0 (l : List Int) (h : l.length ≤ 17592186044032) (d : Nat) : ∀ i : Nat, i + d = l.length →
    Ev (fun k => laws_toIntS.l0 k l (l.take i ++ List.replicate (l.length - i) 0) (i : Int)) l := by
  induction d with
  | zero =>
    intro i hi
    refine Ev.step1 fun k => ?_
    simp only [laws_toIntS.l0]
    rw [if_neg (by omega), set_last l 0 (by omega)]
  | succ d ih =>
    intro i hi
    refine Ev.step (f := fun k => laws_toIntS.l0 k l (l.take (i + 1) ++ List.replicate (l.length - (i + 1)) 0) ((i + 1 : Nat) : Int)) (fun k => ?_) (ih (i + 1) (by omega))
    simp only [laws_toIntS.l0]
    rw [if_pos (by omega), if_pos (by omega), if_pos (by rw [len_mid _ _ (by omega)]; omega), Int.toNat_natCast, wrS (by omega), set_next l 0 _ i (by omega) (rd_nat (by omega))]
theorem toIntS_ev (l : List Int) (h : l.length ≤ 17592186044032) : Ev (fun k => laws_toIntS.f k l) l := by
  unfold laws_toIntS.f
  rw [Int.toNat_natCast]
  simp only [if_pos (show (0 : Int) ≤ l.length by omega), if_pos (show l.length ≤ 35184372088832 by omega)]
  rw [set_first]
  exact toIntS_l0 l h l.length 0 (by omega)
theorem eqIntS_l0 (l : List Int) (h : l.length ≤ 17592186044032) (d : Nat) : ∀ i : Nat, i + d = l.length → Ev (fun k => laws_eqIntS.l0 k l l (i : Int)) true := by
  induction d with
  | zero =>
    intro i hi
    refine Ev.step1 fun k => ?_
    simp only [laws_eqIntS.l0]
    rw [if_neg (by omega)]
  | succ d ih =>
    intro i hi
    refine Ev.step (f := fun k => laws_eqIntS.l0 k l l ((i + 1 : Nat) : Int)) (fun k => ?_) (ih (i + 1) (by omega))
    simp only [laws_eqIntS.l0]
    rw [if_pos (by omega), if_pos (by omega), if_pos (by omega), if_pos trivial, wrS (by omega)]
theorem eqIntS_self (l : List Int) (h : l.length ≤ 17592186044032) : Ev (fun k => laws_eqIntS.f k l l) true := by
  unfold laws_eqIntS.f
  simp only [if_pos trivial]
  exact eqIntS_l0 l h l.length 0 (by omega)
theorem szIntS_some (l : List Int) (n : Int) : ∃ r, laws_szIntS.f l n = some r := by
  unfold laws_szIntS.f
  split <;> exact ⟨_, rfl⟩

/-! ### pageS -/
theorem toPage_ev (ks vs : List ByteArray) (cs : List Int) (hk : ks.length ≤ 8796093021952) (hv : vs.length ≤ 8796093021952) (hc : cs.length ≤ 17592186044032) : Ev (fun k => laws_toPage.f k ks vs cs) (ks, vs, cs) := by
  unfold laws_toPage.f
  exact Ev.bind (toStringS_ev ks hk) (Ev.bind (toStringS_ev vs hv) (Ev.bind (toIntS_ev cs hc) (Ev.now _)))
theorem eqPage_self (ks vs : List ByteArray) (cs : List Int) (hk : ks.length ≤ 8796093021952) (hv : vs.length ≤ 8796093021952) (hc : cs.length ≤ 17592186044032) : Ev (fun k => laws_eqPage.f k ks vs cs ks vs cs) true := by
  unfold laws_eqPage.f
  refine Ev.bind (eqStringS_self ks hk) ?_
  simp only [if_true]
  refine Ev.bind (eqStringS_self vs hv) ?_
  simp only [if_true]
  refine Ev.bind (eqIntS_self cs hc) (Ev.one ?_)
  simp only [if_true]
theorem szPage_some (ks vs : List ByteArray) (cs : List Int) (hk : ks.length ≤ 8796093021952) (hv : vs.length ≤ 8796093021952) (n : Int) : ∃ r, Ev (fun k => laws_szPage.f k ks vs cs n) r := by
  unfold laws_szPage.f
  obtain ⟨r1, h1⟩ := szStringS_some ks hk n
  by_cases c1 : r1 < 0
  · refine ⟨-1, Ev.bind h1 ?_⟩
    simp only [if_pos c1]; exact Ev.now _
  obtain ⟨r2, h2⟩ := szStringS_some vs hv r1
  by_cases c2 : r2 < 0
  · refine ⟨-1, Ev.bind h1 ?_⟩
    simp only [if_neg c1]
    refine Ev.bind h2 ?_
    simp only [if_pos c2]; exact Ev.now _
  obtain ⟨r3, h3⟩ := szIntS_some cs r2
  by_cases c3 : r3 < 0
  · refine ⟨-1, Ev.bind h1 ?_⟩
    simp only [if_neg c1]
    refine Ev.bind h2 ?_
    simp only [if_neg c2, h3, Option.bind_some, if_pos c3]
    exact Ev.now _
  · refine ⟨r3, Ev.bind h1 ?_⟩
    simp only [if_neg c1]
    refine Ev.bind h2 ?_
    simp only [if_neg c2, h3, Option.bind_some, if_neg c3]
    exact Ev.now _

/-! ### law_FnExactPageOk -/
theorem FnExactPageOk (x0_0 : List (ByteArray)) (x0_1 : List (ByteArray)) (x0_2 : List (Int)) (g0 : G43 (x0_0, x0_1, x0_2)) : ∃ k, laws_FnExactPageOk.f k x0_0 x0_1 x0_2 = some true := by
  have hk : x0_0.length ≤ 8796093021952 := by have : x0_0.length * 16 ≤ 140737488351232 := g0.1.1; omega
  have hv : x0_1.length ≤ 8796093021952 := by have : x0_1.length * 16 ≤ 140737488351232 := g0.2.1.1; omega
  have hc : x0_2.length ≤ 17592186044032 := by have : x0_2.length * 8 ≤ 140737488351232 := g0.2.2.1; omega
  refine Ev.rounds ?_
  unfold laws_FnExactPageOk.f
  obtain ⟨r, hr⟩ := szPage_some x0_0 x0_1 x0_2 hk hv 1048576
  refine Ev.bind hr ?_
  by_cases c : r < 0
  · simp only [if_pos c]; exact Ev.now _
  · simp only [if_neg c]
    refine Ev.bind (toPage_ev _ _ _ hk hv hc) (Ev.bind (spec_PageOk_ev _ _ _ hk hv hc) (Ev.bind (toPage_ev _ _ _ hk hv hc) (Ev.bind (impl_PageOk_ev _ _ _ hk hv hc) ?_)))
    simp only [if_neg (ne_self _)]
    refine Ev.bind (toPage_ev _ _ _ hk hv hc) (Ev.bind (eqPage_self _ _ _ hk hv hc) (Ev.one ?_))
    rw [if_pos rfl]

end Go.Proofs.Ytnleeeccpepekaa.Pure
