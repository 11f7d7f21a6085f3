/- The pure statement of FnExactPartOf: what the printed functions of this law compute answers true, for every argument within the bounds that the statement names. -/
import Derived.Test.YtcdnfonholkflaaPFnExactPartOfx2
import Derived.Test.YtcdnfonholkflaaLib
import Derived.Test.YtcdnfonholkflaaLibOrd
import Derived.Test.YtcdnfonholkflaaLibOpen
namespace Go.Proofs.Ytcdnfonholkflaa.Pure
open Go Go.RowKit Go.Proofs.Ytcdnfonholkflaa.PFnExactPartOf Go.Proofs.YtcdnfonholkflaaW.PrintWords Go.Proofs.YtcdnfonholkflaaW.PrintLast Go.Proofs.YtcdnfonholkflaaW.PrintMore Go.Proofs.Ytcdnfonholkflaa.Lib
set_option linter.unusedVariables false
set_option linter.unusedSimpArgs false

def G9 (s : ByteArray) : Prop := s.size ≤ 140737488351232
def G66 (xs : List (ByteArray)) : Prop := xs.length * 16 ≤ 140737488351232 ∧ ∀ x ∈ xs, G9 x

/-! ### within -/
theorem within_eq (x lo hi : Int) : impl_within.f x lo hi = some (decide (lo ≤ x ∧ x ≤ hi)) := by
  unfold impl_within.f
  by_cases h : x ≥ lo
  · rw [if_pos h]; simp [h]
  · rw [if_neg h]; simp; omega

/-! ### keyOk -/
def keyP (s : ByteArray) : Prop := 1 ≤ s.size ∧ s.size ≤ 16
instance (s : ByteArray) : Decidable (keyP s) := inferInstanceAs (Decidable (_ ∧ _))
theorem spec_KeyOk_eq (s : ByteArray) : spec_KeyOk.f s = some (decide (keyP s)) := by
  unfold spec_KeyOk.f
  by_cases h : (s.size : Int) ≥ 1
  · rw [if_pos h]; exact sd (by unfold keyP; omega)
  · rw [if_neg h]; exact sdf (by unfold keyP; omega)
theorem impl_KeyOk_eq (s : ByteArray) : impl_KeyOk.f s = some (decide (keyP s)) := by
  unfold impl_KeyOk.f; rw [within_eq]; simp only [Option.bind_some]; exact sd (by unfold keyP; omega)

/-! ### splitsOk -/
def keyAt (l : List ByteArray) (j : Nat) : ByteArray := l.getD j ByteArray.empty
/-- The key at j is right, and stands behind the one ahead of it. -/
def stepOk (l : List ByteArray) (j : Nat) : Prop := keyP (keyAt l j) ∧ (0 < j → Op.bytesLess (keyAt l (j - 1)).toList (keyAt l j).toList = true)
def splitsOk (l : List ByteArray) : Prop := l.length ≤ 3 ∧ ∀ j, j < l.length → stepOk l j
theorem spec_splits_l0 (l : List ByteArray) (h : l.length ≤ 8796093021952) (d : Nat) : ∀ i : Nat, i + d = l.length →
    Ev (fun k => spec_SplitsOk.l0 k l l (l.length : Int) (i : Int)) (dec (∀ j, i ≤ j → j < l.length → stepOk l j)) := by
  induction d with
  | zero =>
    intro i hi
    rw [dec_t (fun j h1 h2 => absurd h1 (by omega))]
    refine Ev.step1 fun k => ?_
    simp only [spec_SplitsOk.l0]
    rw [if_neg (by omega)]
  | succ d ih =>
    intro i hi
    have hk : rdOf ByteArray.empty l (i : Int) = keyAt l i := rdOf_nat _ _ _
    by_cases c : stepOk l i
    · rw [dec_eq (q := ∀ j, i + 1 ≤ j → j < l.length → stepOk l j) ⟨fun f j h1 h2 => f j (by omega) h2, fun f j h1 h2 => by
        by_cases e : j = i
        · rw [e]; exact c
        · exact f j (by omega) h2⟩]
      refine Ev.step (f := fun k => spec_SplitsOk.l0 k l l (l.length : Int) ((i + 1 : Nat) : Int)) (fun k => ?_) (ih (i + 1) (by omega))
      simp only [spec_SplitsOk.l0]
      rw [if_pos (by omega), if_pos (by omega), if_pos (by omega), hk, spec_KeyOk_eq]
      simp only [Option.bind_some]
      rw [if_pos (decide_eq_true c.1)]
      by_cases h0 : (i : Int) > 0
      · have hk2 : rdOf ByteArray.empty l ((i - 1 : Nat) : Int) = keyAt l (i - 1) := rdOf_nat _ _ _
        rw [if_pos h0, wrP (by omega) (by omega), if_pos (by omega), if_pos (by omega), hk2, if_pos (c.2 (by omega)), wrS (by omega)]
      · rw [if_neg h0, wrS (by omega)]
    · rw [dec_f (fun f => c (f i (Nat.le_refl _) (by omega)))]
      refine Ev.step1 fun k => ?_
      simp only [spec_SplitsOk.l0]
      rw [if_pos (by omega), if_pos (by omega), if_pos (by omega), hk, spec_KeyOk_eq]
      simp only [Option.bind_some]
      by_cases c1 : keyP (keyAt l i)
      · rw [if_pos (decide_eq_true c1)]
        have h0 : 0 < i := by
          rcases Nat.eq_zero_or_pos i with h0 | h0
          · exact absurd ⟨c1, fun h => by omega⟩ c
          · exact h0
        have hk2 : rdOf ByteArray.empty l ((i - 1 : Nat) : Int) = keyAt l (i - 1) := rdOf_nat _ _ _
        rw [if_pos (by omega), wrP (by omega) (by omega), if_pos (by omega), if_pos (by omega), hk2, if_neg (fun e => c ⟨c1, fun _ => e⟩)]
      · rw [if_neg (fun e => c1 (of_decide_eq_true e))]
theorem spec_SplitsOk_ev (l : List ByteArray) (h : l.length ≤ 8796093021952) : Ev (fun k => spec_SplitsOk.f k l) (dec (splitsOk l)) := by
  unfold spec_SplitsOk.f
  by_cases c : (l.length : Int) > 3
  · simp only [if_pos c]; rw [dec_f (fun f => by have := f.1; omega)]; exact Ev.now _
  · simp only [if_neg c]
    rw [dec_eq (q := ∀ j, 0 ≤ j → j < l.length → stepOk l j) ⟨fun f j _ h => f.2 j h, fun f => ⟨by omega, fun j h => f j (by omega) h⟩⟩]
    exact spec_splits_l0 l h l.length 0 (by omega)
theorem impl_splits_l0 (l : List ByteArray) (h : l.length ≤ 8796093021952) (d : Nat) : ∀ i : Nat, i + d = l.length →
    Ev (fun k => impl_SplitsOk.l0 k l l (l.length : Int) (i : Int)) (dec (l.length ≤ 3 ∧ ∀ j, i ≤ j → j < l.length → stepOk l j)) := by
  induction d with
  | zero =>
    intro i hi
    refine Ev.step1 fun k => ?_
    simp only [impl_SplitsOk.l0]
    rw [if_neg (by omega), decide_dec]
    congr 1
    exact dec_eq ⟨fun f => ⟨by omega, fun j h1 h2 => absurd h1 (by omega)⟩, fun f => by have := f.1; omega⟩
  | succ d ih =>
    intro i hi
    have hk : rdOf ByteArray.empty l (i : Int) = keyAt l i := rdOf_nat _ _ _
    by_cases c : stepOk l i
    · rw [dec_eq (q := l.length ≤ 3 ∧ ∀ j, i + 1 ≤ j → j < l.length → stepOk l j) ⟨fun f => ⟨f.1, fun j h1 h2 => f.2 j (by omega) h2⟩, fun f => ⟨f.1, fun j h1 h2 => by
        by_cases e : j = i
        · rw [e]; exact c
        · exact f.2 j (by omega) h2⟩⟩]
      refine Ev.step (f := fun k => impl_SplitsOk.l0 k l l (l.length : Int) ((i + 1 : Nat) : Int)) (fun k => ?_) (ih (i + 1) (by omega))
      simp only [impl_SplitsOk.l0]
      rw [if_pos (by omega), if_pos (by omega), if_pos (by omega), hk, impl_KeyOk_eq]
      simp only [Option.bind_some]
      rw [if_pos (decide_eq_true c.1)]
      by_cases h0 : (i : Int) > 0
      · have hk2 : rdOf ByteArray.empty l ((i - 1 : Nat) : Int) = keyAt l (i - 1) := rdOf_nat _ _ _
        rw [if_pos h0, wrP (by omega) (by omega), if_pos (by omega), if_pos (by omega), hk2, if_pos (c.2 (by omega)), wrS (by omega)]
      · rw [if_neg h0, wrS (by omega)]
    · rw [dec_f (fun f => c (f.2 i (Nat.le_refl _) (by omega)))]
      refine Ev.step1 fun k => ?_
      simp only [impl_SplitsOk.l0]
      rw [if_pos (by omega), if_pos (by omega), if_pos (by omega), hk, impl_KeyOk_eq]
      simp only [Option.bind_some]
      by_cases c1 : keyP (keyAt l i)
      · rw [if_pos (decide_eq_true c1)]
        have h0 : 0 < i := by
          rcases Nat.eq_zero_or_pos i with h0 | h0
          · exact absurd ⟨c1, fun h => by omega⟩ c
          · exact h0
        have hk2 : rdOf ByteArray.empty l ((i - 1 : Nat) : Int) = keyAt l (i - 1) := rdOf_nat _ _ _
        rw [if_pos (by omega), wrP (by omega) (by omega), if_pos (by omega), if_pos (by omega), hk2, if_neg (fun e => c ⟨c1, fun _ => e⟩)]
      · rw [if_neg (fun e => c1 (of_decide_eq_true e))]
theorem impl_SplitsOk_ev (l : List ByteArray) (h : l.length ≤ 8796093021952) : Ev (fun k => impl_SplitsOk.f k l) (dec (splitsOk l)) := by
  unfold impl_SplitsOk.f
  rw [dec_eq (q := l.length ≤ 3 ∧ ∀ j, 0 ≤ j → j < l.length → stepOk l j) ⟨fun f => ⟨f.1, fun j _ h => f.2 j h⟩, fun f => ⟨f.1, fun j h => f.2 j (by omega) h⟩⟩]
  exact impl_splits_l0 l h l.length 0 (by omega)

/-! ### partOf -/
noncomputable def partOf (l : List ByteArray) (i : Int) : ByteArray × ByteArray × Bool :=
  if dec (splitsOk l ∧ 0 ≤ i ∧ i ≤ l.length) = true then ((if 0 < i then keyAt l (i.toNat - 1) else ⟨#[]⟩), (if i < l.length then keyAt l i.toNat else ⟨#[]⟩), true) else (⟨#[]⟩, ⟨#[]⟩, false)
theorem part_core (l : List ByteArray) (h : l.length ≤ 8796093021952) (i : Int) (h0 : 0 ≤ i) (h1 : i ≤ l.length) :
    (if i > 0 then (if 0 ≤ wrap64 (i - 1) then (if wrap64 (i - 1) < (l.length : Int) then (if i < (l.length : Int) then (if 0 ≤ i then (some (rdOf ByteArray.empty l (wrap64 (i - 1)), rdOf ByteArray.empty l i, true)) else (none)) else (some (rdOf ByteArray.empty l (wrap64 (i - 1)), (⟨#[]⟩ : ByteArray), true))) else (none)) else (none)) else (if i < (l.length : Int) then (if 0 ≤ i then (some ((⟨#[]⟩ : ByteArray), rdOf ByteArray.empty l i, true)) else (none)) else (some ((⟨#[]⟩ : ByteArray), (⟨#[]⟩ : ByteArray), true))))
    = some ((if 0 < i then keyAt l (i.toNat - 1) else ⟨#[]⟩), (if i < l.length then keyAt l i.toNat else ⟨#[]⟩), true) := by
  obtain ⟨n, rfl⟩ := Int.eq_ofNat_of_zero_le h0
  have hk : rdOf ByteArray.empty l (n : Int) = keyAt l n := rdOf_nat _ _ _
  rw [Int.toNat_natCast, hk]
  by_cases c : (n : Int) > 0
  · have hk2 : rdOf ByteArray.empty l ((n - 1 : Nat) : Int) = keyAt l (n - 1) := rdOf_nat _ _ _
    rw [if_pos c, wrP (by omega) (by omega), if_pos (by omega), if_pos (by omega), hk2, if_pos (show (0 : Int) < (n : Int) from c)]
    by_cases c2 : (n : Int) < l.length
    · rw [if_pos c2, if_pos h0, if_pos c2]
    · rw [if_neg c2, if_neg c2]
  · rw [if_neg c, if_neg (show ¬ (0 : Int) < (n : Int) from c)]
    by_cases c2 : (n : Int) < l.length
    · rw [if_pos c2, if_pos h0, if_pos c2]
    · rw [if_neg c2, if_neg c2]
theorem partOf_no {l : List ByteArray} {i : Int} (h : ¬ (splitsOk l ∧ 0 ≤ i ∧ i ≤ l.length)) : partOf l i = (⟨#[]⟩, ⟨#[]⟩, false) := by unfold partOf; rw [if_neg (fun e => h (dec_iff.1 e))]
theorem partOf_yes {l : List ByteArray} {i : Int} (h : splitsOk l ∧ 0 ≤ i ∧ i ≤ l.length) : partOf l i = ((if 0 < i then keyAt l (i.toNat - 1) else ⟨#[]⟩), (if i < l.length then keyAt l i.toNat else ⟨#[]⟩), true) := by unfold partOf; rw [if_pos (dec_t h)]

/-! ### specPartOf -/
theorem spec_PartOf_ev (l : List ByteArray) (h : l.length ≤ 8796093021952) (i : Int) : Ev (fun k => spec_PartOf.f k l i) (partOf l i) := by
  unfold spec_PartOf.f
  refine Ev.bind (spec_SplitsOk_ev l h) ?_
  have no : ¬ (splitsOk l ∧ 0 ≤ i ∧ i ≤ l.length) → Ev (fun k => spec_PartOf.j0 k l i true) (partOf l i) := fun f => by
    rw [partOf_no f]
    exact Ev.step1 fun k => by simp only [spec_PartOf.j0]; rfl
  by_cases c : splitsOk l
  · simp only [if_pos (dec_t c)]
    by_cases c1 : i < 0
    · simp only [if_pos c1]
      exact no (fun f => by have := f.2.1; omega)
    · simp only [if_neg c1]
      by_cases c2 : i > (l.length : Int)
      · rw [decide_eq_true c2]; exact no (fun f => by have := f.2.2; omega)
      · rw [decide_eq_false c2, partOf_yes ⟨c, by omega, by omega⟩]
        refine Ev.step1 fun k => ?_
        simp only [spec_PartOf.j0]
        rw [if_neg (by decide)]
        exact part_core l h i (by omega) (by omega)
  · simp only [if_neg (fun e => c (dec_iff.1 e))]
    exact no (fun f => c f.1)

/-! ### implPartOf -/
theorem impl_PartOf_ev (l : List ByteArray) (h : l.length ≤ 8796093021952) (i : Int) : Ev (fun k => impl_PartOf.f k l i) (partOf l i) := by
  unfold impl_PartOf.f
  refine Ev.bind (impl_SplitsOk_ev l h) ?_
  have no : ¬ (splitsOk l ∧ 0 ≤ i ∧ i ≤ l.length) → Ev (fun k => impl_PartOf.j0 k l i true) (partOf l i) := fun f => by
    rw [partOf_no f]
    exact Ev.step1 fun k => by simp only [impl_PartOf.j0]; rfl
  by_cases c : splitsOk l
  · simp only [if_pos (dec_t c)]
    simp only [within_eq, Option.bind_some]
    by_cases c2 : 0 ≤ i ∧ i ≤ (l.length : Int)
    · rw [decide_eq_true c2, Bool.not_true, partOf_yes ⟨c, c2.1, c2.2⟩]
      refine Ev.step1 fun k => ?_
      simp only [impl_PartOf.j0]
      rw [if_neg (by decide)]
      exact part_core l h i c2.1 c2.2
    · rw [decide_eq_false c2, Bool.not_false]; exact no (fun f => c2 f.2)
  · simp only [if_neg (fun e => c (dec_iff.1 e))]
    exact no (fun f => c f.1)

/-! ### stringS -/
theorem toStringS_l0 (l : List ByteArray) (h : l.length ≤ 8796093021952) (d : Nat) : ∀ i : Nat, i + d = l.length →
    Ev (fun k => laws_toStringS.l0 k l (l.take i ++ List.replicate (l.length - i) (⟨#[]⟩ : ByteArray)) (i : Int)) l := by
  induction d with
  | zero =>
    intro i hi
    refine Ev.step1 fun k => ?_
    simp only [laws_toStringS.l0]
    rw [if_neg (by omega), set_last l _ (by omega)]
  | succ d ih =>
    intro i hi
    refine Ev.step (f := fun k => laws_toStringS.l0 k l (l.take (i + 1) ++ List.replicate (l.length - (i + 1)) (⟨#[]⟩ : ByteArray)) ((i + 1 : Nat) : Int)) (fun k => ?_) (ih (i + 1) (by omega))
    simp only [laws_toStringS.l0]
    rw [if_pos (by omega), if_pos (by omega), if_pos (by rw [len_mid _ _ (by omega)]; omega), Int.toNat_natCast, wrS (by omega), rdOf_nat, set_next l _ _ i (by omega) (getD_lt _ _ (by omega))]
theorem toStringS_ev (l : List ByteArray) (h : l.length ≤ 8796093021952) : Ev (fun k => laws_toStringS.f k l) l := by
  unfold laws_toStringS.f
  rw [Int.toNat_natCast]
  simp only [if_pos (show (0 : Int) ≤ l.length by omega), if_pos (show l.length ≤ 17592186044416 by omega)]
  rw [set_first]
  exact toStringS_l0 l h l.length 0 (by omega)
theorem eqStringS_l0 (l : List ByteArray) (h : l.length ≤ 8796093021952) (d : Nat) : ∀ i : Nat, i + d = l.length → Ev (fun k => laws_eqStringS.l0 k l l (i : Int)) true := by
  induction d with
  | zero =>
    intro i hi
    refine Ev.step1 fun k => ?_
    simp only [laws_eqStringS.l0]
    rw [if_neg (by omega)]
  | succ d ih =>
    intro i hi
    refine Ev.step (f := fun k => laws_eqStringS.l0 k l l ((i + 1 : Nat) : Int)) (fun k => ?_) (ih (i + 1) (by omega))
    simp only [laws_eqStringS.l0]
    rw [if_pos (by omega), if_pos (by omega), if_pos (by omega), if_pos trivial, wrS (by omega)]
theorem eqStringS_self (l : List ByteArray) (h : l.length ≤ 8796093021952) : Ev (fun k => laws_eqStringS.f k l l) true := by
  unfold laws_eqStringS.f
  simp only [if_pos trivial]
  exact eqStringS_l0 l h l.length 0 (by omega)
theorem szStringS_l0 (l : List ByteArray) (h : l.length ≤ 8796093021952) (d : Nat) : ∀ (i : Nat) (n : Int), i + d = l.length → ∃ r, Ev (fun k => laws_szStringS.l0 k l n (i : Int)) r := by
  induction d with
  | zero =>
    intro i n hi
    refine ⟨n, Ev.step1 fun k => ?_⟩
    simp only [laws_szStringS.l0]
    rw [if_neg (by omega)]
  | succ d ih =>
    intro i n hi
    by_cases c : wrap64 (n - ((rdOf ByteArray.empty l (i : Int)).size : Int)) < 0
    · refine ⟨-1, Ev.step1 fun k => ?_⟩
      simp only [laws_szStringS.l0]
      rw [if_pos (by omega), if_pos (by omega), if_pos c]
    · obtain ⟨r, hr⟩ := ih (i + 1) (wrap64 (n - ((rdOf ByteArray.empty l (i : Int)).size : Int))) (by omega)
      refine ⟨r, Ev.step (fun k => ?_) hr⟩
      simp only [laws_szStringS.l0]
      rw [if_pos (by omega), if_pos (by omega), if_neg c, wrS (by omega)]
theorem szStringS_some (l : List ByteArray) (h : l.length ≤ 8796093021952) (n : Int) : ∃ r, Ev (fun k => laws_szStringS.f k l n) r := by
  unfold laws_szStringS.f
  by_cases c : wrap64 (n - (l.length : Int)) < 0
  · simp only [if_pos c]; exact ⟨_, Ev.now _⟩
  · simp only [if_neg c]; exact szStringS_l0 l h l.length 0 _ (by omega)

/-! ### eqRange -/
theorem eqRange_self (a b : ByteArray) : laws_eqRange.f a b a b = some true := by
  unfold laws_eqRange.f; rw [if_pos rfl, if_pos rfl]

/-! ### law_FnExactPartOf -/
theorem FnExactPartOf (l0 : List (ByteArray)) (g0 : G66 l0) (a1 : Int) (w1 : (Lit.int .i64 a1).wf = true) : ∃ k, laws_FnExactPartOf.f k l0 a1 = some true := by
  have hl : l0.length ≤ 8796093021952 := by have := g0.1; omega
  refine Ev.rounds ?_
  unfold laws_FnExactPartOf.f
  obtain ⟨r, hr⟩ := szStringS_some l0 hl 1048576
  refine Ev.bind hr ?_
  by_cases c : r < 0
  · simp only [if_pos c]; exact Ev.now _
  · simp only [if_neg c]
    refine Ev.bind (toStringS_ev l0 hl) (Ev.bind (spec_PartOf_ev l0 hl a1) (Ev.bind (toStringS_ev l0 hl) (Ev.bind (impl_PartOf_ev l0 hl a1) ?_)))
    rw [eqRange_self]
    simp only [Option.bind_some, if_true, bne_self_eq_false]
    refine Ev.step (f := fun k => _) (fun k => by simp only [laws_FnExactPartOf.j0]; rfl) ?_
    simp only [Bool.false_eq_true, if_false]
    refine Ev.bind (toStringS_ev l0 hl) (Ev.bind (eqStringS_self l0 hl) (Ev.one ?_))
    rw [if_pos rfl]

end Go.Proofs.Ytcdnfonholkflaa.Pure
