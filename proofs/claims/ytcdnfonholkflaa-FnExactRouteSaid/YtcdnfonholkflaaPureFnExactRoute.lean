/- The pure statement of FnExactRoute: what the printed functions of this law compute answers true, for every argument within the bounds that the statement names. -/
import Derived.Test.YtcdnfonholkflaaPFnExactRoutex2
import Derived.Test.YtcdnfonholkflaaLib
import Derived.Test.YtcdnfonholkflaaLibOrd
import Derived.Test.YtcdnfonholkflaaLibOpen
namespace Go.Proofs.Ytcdnfonholkflaa.Pure
open Go Go.RowKit Go.Proofs.Ytcdnfonholkflaa.PFnExactRoute Go.Proofs.YtcdnfonholkflaaW.PrintWords Go.Proofs.YtcdnfonholkflaaW.PrintLast Go.Proofs.YtcdnfonholkflaaW.PrintMore Go.Proofs.Ytcdnfonholkflaa.Lib
set_option linter.unusedVariables false
set_option linter.unusedSimpArgs false

def G9 (s : ByteArray) : Prop := s.size ≤ 140737488351232
def G66 (xs : List (ByteArray)) : Prop := xs.length * 16 ≤ 140737488351232 ∧ ∀ x ∈ xs, G9 x

/-! ### within -/
theorem within_eq (x lo hi : Int) : impl_within.f x lo hi = some (decide (lo ≤ x ∧ x ≤ hi)) := by
  unfold impl_within.f
  by_cases h : x ≥ lo
  · rw [if_pos h]; simp [h]
  · rw [if_neg h]; simp; omega

/-! ### keyOk -/
def keyP (s : ByteArray) : Prop := 1 ≤ s.size ∧ s.size ≤ 16
instance (s : ByteArray) : Decidable (keyP s) := inferInstanceAs (Decidable (_ ∧ _))
theorem spec_KeyOk_eq (s : ByteArray) : spec_KeyOk.f s = some (decide (keyP s)) := by
  unfold spec_KeyOk.f
  by_cases h : (s.size : Int) ≥ 1
  · rw [if_pos h]; exact sd (by unfold keyP; omega)
  · rw [if_neg h]; exact sdf (by unfold keyP; omega)
theorem impl_KeyOk_eq (s : ByteArray) : impl_KeyOk.f s = some (decide (keyP s)) := by
  unfold impl_KeyOk.f; rw [within_eq]; simp only [Option.bind_some]; exact sd (by unfold keyP; omega)

/-! ### splitsOk -/
def keyAt (l : List ByteArray) (j : Nat) : ByteArray := l.getD j ByteArray.empty
/-- The key at j is right, and stands behind the one ahead of it. -/
def stepOk (l : List ByteArray) (j : Nat) : Prop := keyP (keyAt l j) ∧ (0 < j → Op.bytesLess (keyAt l (j - 1)).toList (keyAt l j).toList = true)
def splitsOk (l : List ByteArray) : Prop := l.length ≤ 3 ∧ ∀ j, j < l.length → stepOk l j
theorem spec_splits_l0 (l : List ByteArray) (h : l.length ≤ 8796093021952) (d : Nat) : ∀ i : Nat, i + d = l.length →
    Ev (fun k => spec_SplitsOk.l0 k l l (l.length : Int) (i : Int)) (dec (∀ j, i ≤ j → j < l.length → stepOk l j)) := by
  induction d with
  | zero =>
    intro i hi
    rw [dec_t (fun j h1 h2 => absurd h1 (by omega))]
    refine Ev.step1 fun k => ?_
    simp only [spec_SplitsOk.l0]
    rw [if_neg (by omega)]
  | succ d ih =>
    intro i hi
    have hk : rdOf ByteArray.empty l (i : Int) = keyAt l i := rdOf_nat _ _ _
    by_cases c : stepOk l i
    · rw [dec_eq (q := ∀ j, i + 1 ≤ j → j < l.length → stepOk l j) ⟨fun f j h1 h2 => f j (by omega) h2, fun f j h1 h2 => by
        by_cases e : j = i
        · rw [e]; exact c
        · exact f j (by omega) h2⟩]
      refine Ev.step (f := fun k => spec_SplitsOk.l0 k l l (l.length : Int) ((i + 1 : Nat) : Int)) (fun k => ?_) (ih (i + 1) (by omega))
      simp only [spec_SplitsOk.l0]
      rw [if_pos (by omega), if_pos (by omega), if_pos (by omega), hk, spec_KeyOk_eq]
      simp only [Option.bind_some]
      rw [if_pos (decide_eq_true c.1)]
      by_cases h0 : (i : Int) > 0
      · have hk2 : rdOf ByteArray.empty l ((i - 1 : Nat) : Int) = keyAt l (i - 1) := rdOf_nat _ _ _
        rw [if_pos h0, wrP (by omega) (by omega), if_pos (by omega), if_pos (by omega), hk2, if_pos (c.2 (by omega)), wrS (by omega)]
      · rw [if_neg h0, wrS (by omega)]
    · rw [dec_f (fun f => c (f i (Nat.le_refl _) (by omega)))]
      refine Ev.step1 fun k => ?_
      simp only [spec_SplitsOk.l0]
      rw [if_pos (by omega), if_pos (by omega), if_pos (by omega), hk, spec_KeyOk_eq]
      simp only [Option.bind_some]
      by_cases c1 : keyP (keyAt l i)
      · rw [if_pos (decide_eq_true c1)]
        have h0 : 0 < i := by
          rcases Nat.eq_zero_or_pos i with h0 | h0
          · exact absurd ⟨c1, fun h => by omega⟩ c
          · exact h0
        have hk2 : rdOf ByteArray.empty l ((i - 1 : Nat) : Int) = keyAt l (i - 1) := rdOf_nat _ _ _
        rw [if_pos (by omega), wrP (by omega) (by omega), if_pos (by omega), if_pos (by omega), hk2, if_neg (fun e => c ⟨c1, fun _ => e⟩)]
      · rw [if_neg (fun e => c1 (of_decide_eq_true e))]
theorem spec_SplitsOk_ev (l : List ByteArray) (h : l.length ≤ 8796093021952) : Ev (fun k => spec_SplitsOk.f k l) (dec (splitsOk l)) := by
  unfold spec_SplitsOk.f
  by_cases c : (l.length : Int) > 3
  · simp only [if_pos c]; rw [dec_f (fun f => by have := f.1; omega)]; exact Ev.now _
  · simp only [if_neg c]
    rw [dec_eq (q := ∀ j, 0 ≤ j → j < l.length → stepOk l j) ⟨fun f j _ h => f.2 j h, fun f => ⟨by omega, fun j h => f j (by omega) h⟩⟩]
    exact spec_splits_l0 l h l.length 0 (by omega)
theorem impl_splits_l0 (l : List ByteArray) (h : l.length ≤ 8796093021952) (d : Nat) : ∀ i : Nat, i + d = l.length →
    Ev (fun k => impl_SplitsOk.l0 k l l (l.length : Int) (i : Int)) (dec (l.length ≤ 3 ∧ ∀ j, i ≤ j → j < l.length → stepOk l j)) := by
  induction d with
  | zero =>
    intro i hi
    refine Ev.step1 fun k => ?_
    simp only [impl_SplitsOk.l0]
    rw [if_neg (by omega), decide_dec]
    congr 1
    exact dec_eq ⟨fun f => ⟨by omega, fun j h1 h2 => absurd h1 (by omega)⟩, fun f => by have := f.1; omega⟩
  | succ d ih =>
    intro i hi
    have hk : rdOf ByteArray.empty l (i : Int) = keyAt l i := rdOf_nat _ _ _
    by_cases c : stepOk l i
    · rw [dec_eq (q := l.length ≤ 3 ∧ ∀ j, i + 1 ≤ j → j < l.length → stepOk l j) ⟨fun f => ⟨f.1, fun j h1 h2 => f.2 j (by omega) h2⟩, fun f => ⟨f.1, fun j h1 h2 => by
        by_cases e : j = i
        · rw [e]; exact c
        · exact f.2 j (by omega) h2⟩⟩]
      refine Ev.step (f := fun k => impl_SplitsOk.l0 k l l (l.length : Int) ((i + 1 : Nat) : Int)) (fun k => ?_) (ih (i + 1) (by omega))
      simp only [impl_SplitsOk.l0]
      rw [if_pos (by omega), if_pos (by omega), if_pos (by omega), hk, impl_KeyOk_eq]
      simp only [Option.bind_some]
      rw [if_pos (decide_eq_true c.1)]
      by_cases h0 : (i : Int) > 0
      · have hk2 : rdOf ByteArray.empty l ((i - 1 : Nat) : Int) = keyAt l (i - 1) := rdOf_nat _ _ _
        rw [if_pos h0, wrP (by omega) (by omega), if_pos (by omega), if_pos (by omega), hk2, if_pos (c.2 (by omega)), wrS (by omega)]
      · rw [if_neg h0, wrS (by omega)]
    · rw [dec_f (fun f => c (f.2 i (Nat.le_refl _) (by omega)))]
      refine Ev.step1 fun k => ?_
      simp only [impl_SplitsOk.l0]
      rw [if_pos (by omega), if_pos (by omega), if_pos (by omega), hk, impl_KeyOk_eq]
      simp only [Option.bind_some]
      by_cases c1 : keyP (keyAt l i)
      · rw [if_pos (decide_eq_true c1)]
        have h0 : 0 < i := by
          rcases Nat.eq_zero_or_pos i with h0 | h0
          · exact absurd ⟨c1, fun h => by omega⟩ c
          · exact h0
        have hk2 : rdOf ByteArray.empty l ((i - 1 : Nat) : Int) = keyAt l (i - 1) := rdOf_nat _ _ _
        rw [if_pos (by omega), wrP (by omega) (by omega), if_pos (by omega), if_pos (by omega), hk2, if_neg (fun e => c ⟨c1, fun _ => e⟩)]
      · rw [if_neg (fun e => c1 (of_decide_eq_true e))]
theorem impl_SplitsOk_ev (l : List ByteArray) (h : l.length ≤ 8796093021952) : Ev (fun k => impl_SplitsOk.f k l) (dec (splitsOk l)) := by
  unfold impl_SplitsOk.f
  rw [dec_eq (q := l.length ≤ 3 ∧ ∀ j, 0 ≤ j → j < l.length → stepOk l j) ⟨fun f => ⟨f.1, fun j _ h => f.2 j h⟩, fun f => ⟨f.1, fun j h => f.2 j (by omega) h⟩⟩]
  exact impl_splits_l0 l h l.length 0 (by omega)

/-! ### partOf -/
noncomputable def partOf (l : List ByteArray) (i : Int) : ByteArray × ByteArray × Bool :=
  if dec (splitsOk l ∧ 0 ≤ i ∧ i ≤ l.length) = true then ((if 0 < i then keyAt l (i.toNat - 1) else ⟨#[]⟩), (if i < l.length then keyAt l i.toNat else ⟨#[]⟩), true) else (⟨#[]⟩, ⟨#[]⟩, false)
theorem part_core (l : List ByteArray) (h : l.length ≤ 8796093021952) (i : Int) (h0 : 0 ≤ i) (h1 : i ≤ l.length) :
    (if i > 0 then (if 0 ≤ wrap64 (i - 1) then (if wrap64 (i - 1) < (l.length : Int) then (if i < (l.length : Int) then (if 0 ≤ i then (some (rdOf ByteArray.empty l (wrap64 (i - 1)), rdOf ByteArray.empty l i, true)) else (none)) else (some (rdOf ByteArray.empty l (wrap64 (i - 1)), (⟨#[]⟩ : ByteArray), true))) else (none)) else (none)) else (if i < (l.length : Int) then (if 0 ≤ i then (some ((⟨#[]⟩ : ByteArray), rdOf ByteArray.empty l i, true)) else (none)) else (some ((⟨#[]⟩ : ByteArray), (⟨#[]⟩ : ByteArray), true))))
    = some ((if 0 < i then keyAt l (i.toNat - 1) else ⟨#[]⟩), (if i < l.length then keyAt l i.toNat else ⟨#[]⟩), true) := by
  obtain ⟨n, rfl⟩ := Int.eq_ofNat_of_zero_le h0
  have hk : rdOf ByteArray.empty l (n : Int) = keyAt l n := rdOf_nat _ _ _
  rw [Int.toNat_natCast, hk]
  by_cases c : (n : Int) > 0
  · have hk2 : rdOf ByteArray.empty l ((n - 1 : Nat) : Int) = keyAt l (n - 1) := rdOf_nat _ _ _
    rw [if_pos c, wrP (by omega) (by omega), if_pos (by omega), if_pos (by omega), hk2, if_pos (show (0 : Int) < (n : Int) from c)]
    by_cases c2 : (n : Int) < l.length
    · rw [if_pos c2, if_pos h0, if_pos c2]
    · rw [if_neg c2, if_neg c2]
  · rw [if_neg c, if_neg (show ¬ (0 : Int) < (n : Int) from c)]
    by_cases c2 : (n : Int) < l.length
    · rw [if_pos c2, if_pos h0, if_pos c2]
    · rw [if_neg c2, if_neg c2]
theorem partOf_no {l : List ByteArray} {i : Int} (h : ¬ (splitsOk l ∧ 0 ≤ i ∧ i ≤ l.length)) : partOf l i = (⟨#[]⟩, ⟨#[]⟩, false) := by unfold partOf; rw [if_neg (fun e => h (dec_iff.1 e))]
theorem partOf_yes {l : List ByteArray} {i : Int} (h : splitsOk l ∧ 0 ≤ i ∧ i ≤ l.length) : partOf l i = ((if 0 < i then keyAt l (i.toNat - 1) else ⟨#[]⟩), (if i < l.length then keyAt l i.toNat else ⟨#[]⟩), true) := by unfold partOf; rw [if_pos (dec_t h)]

/-! ### specPartOf -/
theorem spec_PartOf_ev (l : List ByteArray) (h : l.length ≤ 8796093021952) (i : Int) : Ev (fun k => spec_PartOf.f k l i) (partOf l i) := by
  unfold spec_PartOf.f
  refine Ev.bind (spec_SplitsOk_ev l h) ?_
  have no : ¬ (splitsOk l ∧ 0 ≤ i ∧ i ≤ l.length) → Ev (fun k => spec_PartOf.j0 k l i true) (partOf l i) := fun f => by
    rw [partOf_no f]
    exact Ev.step1 fun k => by simp only [spec_PartOf.j0]; rfl
  by_cases c : splitsOk l
  · simp only [if_pos (dec_t c)]
    by_cases c1 : i < 0
    · simp only [if_pos c1]
      exact no (fun f => by have := f.2.1; omega)
    · simp only [if_neg c1]
      by_cases c2 : i > (l.length : Int)
      · rw [decide_eq_true c2]; exact no (fun f => by have := f.2.2; omega)
      · rw [decide_eq_false c2, partOf_yes ⟨c, by omega, by omega⟩]
        refine Ev.step1 fun k => ?_
        simp only [spec_PartOf.j0]
        rw [if_neg (by decide)]
        exact part_core l h i (by omega) (by omega)
  · simp only [if_neg (fun e => c (dec_iff.1 e))]
    exact no (fun f => c f.1)

/-! ### rangeOk -/
def ltB (a b : ByteArray) : Bool := Op.bytesLess a.toList b.toList
def rangeOk (lo hi : ByteArray) : Prop := lo.size ≤ 17 ∧ hi.size ≤ 17 ∧ (hi.size = 0 ∨ ltB lo hi = true)
instance (lo hi : ByteArray) : Decidable (rangeOk lo hi) := inferInstanceAs (Decidable (_ ∧ _ ∧ _))
theorem spec_RangeOk_eq (lo hi : ByteArray) : spec_RangeOk.f lo hi = some (decide (rangeOk lo hi)) := by
  unfold spec_RangeOk.f
  by_cases h1 : (lo.size : Int) > 17
  · rw [if_pos h1]; exact sdf (fun h => by have := h.1; omega)
  · rw [if_neg h1]
    by_cases h2 : (hi.size : Int) > 17
    · rw [if_pos h2]; exact sdf (fun h => by have := h.2.1; omega)
    · rw [if_neg h2]
      by_cases h3 : hi.toList = []
      · rw [if_pos h3]; exact sdt ⟨by omega, by omega, .inl (tl_nil.1 h3)⟩
      · rw [if_neg h3]
        show some (ltB lo hi) = _
        congr 1
        cases e : ltB lo hi with
        | true => exact (decide_eq_true ⟨by omega, by omega, .inr e⟩).symm
        | false => exact (decide_eq_false (fun h => by rcases h.2.2 with h | h; exact h3 (tl_nil.2 h); rw [e] at h; cases h)).symm

/-! ### rangeHas -/
def rangeHas (lo hi k : ByteArray) : Prop := rangeOk lo hi ∧ keyP k ∧ Op.bytesLess k.toList lo.toList = false ∧ (hi.size = 0 ∨ Op.bytesLess k.toList hi.toList = true)
theorem spec_RangeHas_eq (lo hi k : ByteArray) : spec_RangeHas.f lo hi k = some (dec (rangeHas lo hi k)) := by
  unfold spec_RangeHas.f
  rw [spec_RangeOk_eq, spec_KeyOk_eq]
  simp only [Option.bind_some]
  by_cases h : rangeOk lo hi
  · rw [if_pos (decide_eq_true h)]
    by_cases h2 : keyP k
    · rw [if_pos (decide_eq_true h2)]
      by_cases h3 : Op.bytesLess k.toList lo.toList = true
      · rw [if_pos h3, dec_f (fun f => by rw [f.2.2.1] at h3; cases h3)]
      · rw [if_neg h3]
        by_cases h4 : hi.toList = []
        · rw [if_pos h4, dec_t ⟨h, h2, by simpa using h3, .inl (tl_nil.1 h4)⟩]
        · rw [if_neg h4]
          congr 1
          exact bool_dec ⟨fun e => ⟨h, h2, by simpa using h3, .inr e⟩, fun f => by
            rcases f.2.2.2 with f | f
            · exact absurd (tl_nil.2 f) h4
            · exact f⟩
    · rw [if_neg (fun e => h2 (of_decide_eq_true e)), dec_f (fun f => h2 f.2.1)]
  · rw [if_neg (fun e => h (of_decide_eq_true e)), dec_f (fun f => h f.1)]

/-! ### stringS -/
theorem toStringS_l0 (l : List ByteArray) (h : l.length ≤ 8796093021952) (d : Nat) : ∀ i : Nat, i + d = l.length →
    Ev (fun k => laws_toStringS.l0 k l (l.take i ++ List.replicate (l.length - i) (⟨#[]⟩ : ByteArray)) (i : Int)) l := by
  induction d with
  | zero =>
    intro i hi
    refine Ev.step1 fun k => ?_
    simp only [laws_toStringS.l0]
    rw [if_neg (by omega), set_last l _ (by omega)]
  | succ d ih =>
    intro i hi
    refine Ev.step (f := fun k => laws_toStringS.l0 k l (l.take (i + 1) ++ List.replicate (l.length - (i + 1)) (⟨#[]⟩ : ByteArray)) ((i + 1 : Nat) : Int)) (fun k => ?_) (ih (i + 1) (by omega))
    simp only [laws_toStringS.l0]
    rw [if_pos (by omega), if_pos (by omega), if_pos (by rw [len_mid _ _ (by omega)]; omega), Int.toNat_natCast, wrS (by omega), rdOf_nat, set_next l _ _ i (by omega) (getD_lt _ _ (by omega))]
theorem toStringS_ev (l : List ByteArray) (h : l.length ≤ 8796093021952) : Ev (fun k => laws_toStringS.f k l) l := by
  unfold laws_toStringS.f
  rw [Int.toNat_natCast]
  simp only [if_pos (show (0 : Int) ≤ l.length by omega), if_pos (show l.length ≤ 17592186044416 by omega)]
  rw [set_first]
  exact toStringS_l0 l h l.length 0 (by omega)
theorem eqStringS_l0 (l : List ByteArray) (h : l.length ≤ 8796093021952) (d : Nat) : ∀ i : Nat, i + d = l.length → Ev (fun k => laws_eqStringS.l0 k l l (i : Int)) true := by
  induction d with
  | zero =>
    intro i hi
    refine Ev.step1 fun k => ?_
    simp only [laws_eqStringS.l0]
    rw [if_neg (by omega)]
  | succ d ih =>
    intro i hi
    refine Ev.step (f := fun k => laws_eqStringS.l0 k l l ((i + 1 : Nat) : Int)) (fun k => ?_) (ih (i + 1) (by omega))
    simp only [laws_eqStringS.l0]
    rw [if_pos (by omega), if_pos (by omega), if_pos (by omega), if_pos trivial, wrS (by omega)]
theorem eqStringS_self (l : List ByteArray) (h : l.length ≤ 8796093021952) : Ev (fun k => laws_eqStringS.f k l l) true := by
  unfold laws_eqStringS.f
  simp only [if_pos trivial]
  exact eqStringS_l0 l h l.length 0 (by omega)
theorem szStringS_l0 (l : List ByteArray) (h : l.length ≤ 8796093021952) (d : Nat) : ∀ (i : Nat) (n : Int), i + d = l.length → ∃ r, Ev (fun k => laws_szStringS.l0 k l n (i : Int)) r := by
  induction d with
  | zero =>
    intro i n hi
    refine ⟨n, Ev.step1 fun k => ?_⟩
    simp only [laws_szStringS.l0]
    rw [if_neg (by omega)]
  | succ d ih =>
    intro i n hi
    by_cases c : wrap64 (n - ((rdOf ByteArray.empty l (i : Int)).size : Int)) < 0
    · refine ⟨-1, Ev.step1 fun k => ?_⟩
      simp only [laws_szStringS.l0]
      rw [if_pos (by omega), if_pos (by omega), if_pos c]
    · obtain ⟨r, hr⟩ := ih (i + 1) (wrap64 (n - ((rdOf ByteArray.empty l (i : Int)).size : Int))) (by omega)
      refine ⟨r, Ev.step (fun k => ?_) hr⟩
      simp only [laws_szStringS.l0]
      rw [if_pos (by omega), if_pos (by omega), if_neg c, wrS (by omega)]
theorem szStringS_some (l : List ByteArray) (h : l.length ≤ 8796093021952) (n : Int) : ∃ r, Ev (fun k => laws_szStringS.f k l n) r := by
  unfold laws_szStringS.f
  by_cases c : wrap64 (n - (l.length : Int)) < 0
  · simp only [if_pos c]; exact ⟨_, Ev.now _⟩
  · simp only [if_neg c]; exact szStringS_l0 l h l.length 0 _ (by omega)

/-! ### law_FnExactRoute -/
theorem keyAt_pos {l : List ByteArray} (hs : splitsOk l) {j : Nat} (h : j < l.length) : 1 ≤ (keyAt l j).size ∧ (keyAt l j).size ≤ 16 := (hs.2 j h).1
theorem spec_route_none (l : List ByteArray) (hl : l.length ≤ 8796093021952) (k : ByteArray) (hn : ¬ (splitsOk l ∧ keyP k)) (d : Nat) : ∀ i : Nat, i + d = l.length + 1 →
    Ev (fun n => spec_Route.l0 n l k (i : Int)) (-1) := by
  induction d with
  | zero =>
    intro i hi
    refine Ev.step1 fun n => ?_
    simp only [spec_Route.l0]
    rw [if_neg (by omega)]
  | succ d ih =>
    intro i hi
    have goOn := ih (i + 1) (by omega)
    refine Ev.step (f := fun n => (spec_PartOf.f n l (i : Int)).bind fun t => if t.2.2 = true then ((spec_RangeHas.f t.1 t.2.1 k).bind fun q => if q = true then some (i : Int) else spec_Route.l0 n l k ((i + 1 : Nat) : Int)) else spec_Route.l0 n l k ((i + 1 : Nat) : Int)) (fun n => ?_) ?_
    · simp only [spec_Route.l0]
      rw [if_pos (by omega), wrS (by omega)]
    · refine Ev.bind (spec_PartOf_ev l hl i) ?_
      by_cases c : splitsOk l
      · rw [partOf_yes ⟨c, by omega, by omega⟩]
        simp only [if_true, spec_RangeHas_eq, Option.bind_some]
        rw [dec_f (fun f => hn ⟨c, f.2.1⟩)]
        simp only [Bool.false_eq_true, if_false]
        exact goOn
      · rw [partOf_no (fun f => c f.1)]
        simp only [Bool.false_eq_true, if_false]
        exact goOn
theorem route_both (l : List ByteArray) (hl : l.length ≤ 8796093021952) (k : ByteArray) (hs : splitsOk l) (hk : keyP k) (d : Nat) : ∀ i : Nat, i + d = l.length → (∀ j, j < i → Op.bytesLess k.toList (keyAt l j).toList = false) →
    ∃ r, Ev (fun n => impl_Route.l0 n l k (i : Int)) r ∧ Ev (fun n => spec_Route.l0 n l k (i : Int)) r := by
  have stop : ∀ i : Nat, i ≤ l.length → (∀ j, j < i → Op.bytesLess k.toList (keyAt l j).toList = false) → (i = l.length ∨ Op.bytesLess k.toList (keyAt l i).toList = true) → Ev (fun n => spec_Route.l0 n l k (i : Int)) (i : Int) := by
    intro i hi hj he
    refine Ev.step (f := fun n => (spec_PartOf.f n l (i : Int)).bind fun t => if t.2.2 = true then ((spec_RangeHas.f t.1 t.2.1 k).bind fun q => if q = true then some (i : Int) else spec_Route.l0 n l k ((i + 1 : Nat) : Int)) else spec_Route.l0 n l k ((i + 1 : Nat) : Int)) (fun n => ?_) ?_
    · simp only [spec_Route.l0]
      rw [if_pos (by omega), wrS (by omega)]
    · refine Ev.bind (spec_PartOf_ev l hl i) ?_
      rw [partOf_yes ⟨hs, by omega, by omega⟩]
      simp only [if_true, spec_RangeHas_eq, Option.bind_some]
      rw [dec_t]
      · simp only [if_true]; exact Ev.now _
      · rw [Int.toNat_natCast]
        have hhi : (if (i : Int) < (l.length : Int) then keyAt l i else (⟨#[]⟩ : ByteArray)).size ≤ 17 := by
          split
          · have := keyAt_pos hs (j := i) (by omega); omega
          · exact Nat.zero_le _
        have hlo : (if (0 : Int) < (i : Int) then keyAt l (i - 1) else (⟨#[]⟩ : ByteArray)).size ≤ 17 := by
          split
          · have := keyAt_pos hs (j := i - 1) (by omega); omega
          · exact Nat.zero_le _
        refine ⟨⟨hlo, hhi, ?_⟩, hk, ?_, ?_⟩
        · by_cases c : (i : Int) < (l.length : Int)
          · rw [if_pos c]
            right
            show Op.bytesLess _ _ = true
            by_cases c0 : (0 : Int) < (i : Int)
            · rw [if_pos c0]; exact (hs.2 i (by omega)).2 (by omega)
            · rw [if_neg c0]
              have h1 := (keyAt_pos hs (j := i) (by omega)).1
              cases e : (keyAt l i).toList with
              | nil => have := tl_nil.1 e; omega
              | cons x r => rw [tl_empty]; rfl
          · rw [if_neg c]; exact .inl rfl
        · by_cases c0 : (0 : Int) < (i : Int)
          · rw [if_pos c0]; exact hj (i - 1) (by omega)
          · rw [if_neg c0, tl_empty]; exact Ord.bl_nil _
        · by_cases c : (i : Int) < (l.length : Int)
          · rw [if_pos c]; exact .inr (he.resolve_left (by omega))
          · rw [if_neg c]; exact .inl rfl
  induction d with
  | zero =>
    intro i hi hj
    refine ⟨(i : Int), Ev.step1 fun n => ?_, stop i (by omega) hj (.inl (by omega))⟩
    simp only [impl_Route.l0]
    rw [if_neg (by omega)]
  | succ d ih =>
    intro i hi hj
    have hr : rdOf ByteArray.empty l (i : Int) = keyAt l i := rdOf_nat _ _ _
    by_cases c : Op.bytesLess k.toList (keyAt l i).toList = true
    · refine ⟨(i : Int), Ev.step1 fun n => ?_, stop i (by omega) hj (.inr c)⟩
      simp only [impl_Route.l0]
      rw [if_pos (by omega), if_pos (by omega), hr, if_pos c]
    · obtain ⟨r, h1, h2⟩ := ih (i + 1) (by omega) (fun j h => by
        by_cases e : j = i
        · rw [e]; simpa using c
        · exact hj j (by omega))
      refine ⟨r, Ev.step (fun n => ?_) h1, Ev.step (f := fun n => (spec_PartOf.f n l (i : Int)).bind fun t => if t.2.2 = true then ((spec_RangeHas.f t.1 t.2.1 k).bind fun q => if q = true then some (i : Int) else spec_Route.l0 n l k ((i + 1 : Nat) : Int)) else spec_Route.l0 n l k ((i + 1 : Nat) : Int)) (fun n => ?_) ?_⟩
      · simp only [impl_Route.l0]
        rw [if_pos (by omega), if_pos (by omega), hr, if_neg c, wrS (by omega)]
      · simp only [spec_Route.l0]
        rw [if_pos (by omega), wrS (by omega)]
      · refine Ev.bind (spec_PartOf_ev l hl i) ?_
        rw [partOf_yes ⟨hs, by omega, by omega⟩]
        simp only [if_true, spec_RangeHas_eq, Option.bind_some]
        rw [Int.toNat_natCast, if_pos (show (i : Int) < (l.length : Int) by omega), dec_f (fun f => by
          rcases f.2.2.2 with f | f
          · have := (keyAt_pos hs (j := i) (by omega)).1; omega
          · exact c f)]
        simp only [Bool.false_eq_true, if_false]
        exact h2
theorem FnExactRoute (l0 : List (ByteArray)) (g0 : G66 l0) (a1 : ByteArray) (w1 : a1.size ≤ 140737488351232) : ∃ k, laws_FnExactRoute.f k l0 a1 = some true := by
  have hl : l0.length ≤ 8796093021952 := by have := g0.1; omega
  have core : ∃ r, Ev (fun n => spec_Route.f n l0 a1) r ∧ Ev (fun n => impl_Route.f n l0 a1) r := by
    unfold spec_Route.f impl_Route.f
    by_cases hs : splitsOk l0
    · by_cases hk : keyP a1
      · obtain ⟨r, h1, h2⟩ := route_both l0 hl a1 hs hk l0.length 0 (by omega) (fun j h => by omega)
        refine ⟨r, h2, Ev.bind (impl_SplitsOk_ev l0 hl) ?_⟩
        simp only [if_pos (dec_t hs), impl_KeyOk_eq, Option.bind_some]
        rw [decide_eq_true hk, Bool.not_true]
        exact Ev.step (f := fun n => impl_Route.l0 n l0 a1 0) (fun n => by simp only [impl_Route.j0]; rfl) h1
      · refine ⟨-1, spec_route_none l0 hl a1 (fun f => hk f.2) (l0.length + 1) 0 (by omega), Ev.bind (impl_SplitsOk_ev l0 hl) ?_⟩
        simp only [if_pos (dec_t hs), impl_KeyOk_eq, Option.bind_some]
        rw [decide_eq_false hk, Bool.not_false]
        exact Ev.step1 fun n => by simp only [impl_Route.j0]; rfl
    · refine ⟨-1, spec_route_none l0 hl a1 (fun f => hs f.1) (l0.length + 1) 0 (by omega), Ev.bind (impl_SplitsOk_ev l0 hl) ?_⟩
      simp only [if_neg (fun e => hs (dec_iff.1 e))]
      exact Ev.step1 fun n => by simp only [impl_Route.j0]; rfl
  obtain ⟨q, hq1, hq2⟩ := core
  refine Ev.rounds ?_
  unfold laws_FnExactRoute.f
  by_cases c0 : (a1.size : Int) > 1048576
  · simp only [if_pos c0]; exact Ev.now _
  · simp only [if_neg c0]
    obtain ⟨r, hr⟩ := szStringS_some l0 hl 1048576
    refine Ev.bind hr ?_
    by_cases c : r < 0
    · simp only [if_pos c]; exact Ev.now _
    · simp only [if_neg c]
      refine Ev.bind (toStringS_ev l0 hl) (Ev.bind hq1 (Ev.bind (toStringS_ev l0 hl) (Ev.bind hq2 ?_)))
      simp only [if_true]
      refine Ev.bind (toStringS_ev l0 hl) (Ev.bind (eqStringS_self l0 hl) (Ev.one ?_))
      rw [if_pos rfl]

end Go.Proofs.Ytcdnfonholkflaa.Pure
