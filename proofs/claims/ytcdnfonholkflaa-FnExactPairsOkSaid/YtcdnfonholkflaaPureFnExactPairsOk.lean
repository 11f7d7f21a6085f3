/- The pure statement of FnExactPairsOk: what the printed functions of this law compute answers true, for every argument within the bounds that the statement names. -/
import Derived.Test.YtcdnfonholkflaaPFnExactPairsOkx3
import Derived.Test.YtcdnfonholkflaaLib
import Derived.Test.YtcdnfonholkflaaLibOrd
import Derived.Test.YtcdnfonholkflaaLibOpen
namespace Go.Proofs.Ytcdnfonholkflaa.Pure
open Go Go.RowKit Go.Proofs.Ytcdnfonholkflaa.PFnExactPairsOk Go.Proofs.YtcdnfonholkflaaW.PrintWords Go.Proofs.YtcdnfonholkflaaW.PrintLast Go.Proofs.YtcdnfonholkflaaW.PrintMore Go.Proofs.Ytcdnfonholkflaa.Lib
set_option linter.unusedVariables false
set_option linter.unusedSimpArgs false

def G9 (s : ByteArray) : Prop := s.size ≤ 140737488351232
def G83 (x : S83) : Prop := G9 x.f0 ∧ G9 x.f1
def G44 (xs : List (S83)) : Prop := xs.length * 32 ≤ 140737488351232 ∧ ∀ x ∈ xs, G83 x

/-! ### within -/
theorem within_eq (x lo hi : Int) : impl_within.f x lo hi = some (decide (lo ≤ x ∧ x ≤ hi)) := by
  unfold impl_within.f
  by_cases h : x ≥ lo
  · rw [if_pos h]; simp [h]
  · rw [if_neg h]; simp; omega

/-! ### keyOk -/
def keyP (s : ByteArray) : Prop := 1 ≤ s.size ∧ s.size ≤ 16
instance (s : ByteArray) : Decidable (keyP s) := inferInstanceAs (Decidable (_ ∧ _))
theorem spec_KeyOk_eq (s : ByteArray) : spec_KeyOk.f s = some (decide (keyP s)) := by
  unfold spec_KeyOk.f
  by_cases h : (s.size : Int) ≥ 1
  · rw [if_pos h]; exact sd (by unfold keyP; omega)
  · rw [if_neg h]; exact sdf (by unfold keyP; omega)
theorem impl_KeyOk_eq (s : ByteArray) : impl_KeyOk.f s = some (decide (keyP s)) := by
  unfold impl_KeyOk.f; rw [within_eq]; simp only [Option.bind_some]; exact sd (by unfold keyP; omega)

/-! ### valOk -/
def valP (s : ByteArray) : Prop := s.size ≤ 60
instance (s : ByteArray) : Decidable (valP s) := inferInstanceAs (Decidable (_ ≤ _))
theorem spec_ValOk_eq (s : ByteArray) : spec_ValOk.f s = some (decide (valP s)) := sd (by unfold valP; omega)
theorem impl_ValOk_eq (s : ByteArray) : impl_ValOk.f s = some (decide (valP s)) := sd (by unfold valP; omega)

/-! ### pairS -/
def cv_Pair (x : S83) : S84 := ⟨x.f0, x.f1⟩
theorem rds_Pair (l : List S83) {i : Nat} (h : i < l.length) : rd_T83 l (i : Int) = l[i] := by unfold rd_T83; rw [Int.toNat_natCast]; exact getD_lt _ _ h
theorem rdd_Pair (l : List S84) {i : Nat} (h : i < l.length) : rd_T84 l (i : Int) = l[i] := by unfold rd_T84; rw [Int.toNat_natCast]; exact getD_lt _ _ h
theorem toPairS_l0 (l : List S83) (h : l.length ≤ 4398046510976) (d : Nat) : ∀ i : Nat, i + d = l.length →
    Ev (fun k => laws_toPairS.l0 k l ((l.map cv_Pair).take i ++ List.replicate ((l.map cv_Pair).length - i) z84) (i : Int)) (l.map cv_Pair) := by
  have hm : (l.map cv_Pair).length = l.length := List.length_map ..
  induction d with
  | zero =>
    intro i hi
    refine Ev.step1 fun k => ?_
    simp only [laws_toPairS.l0]
    rw [if_neg (by omega), set_last (l.map cv_Pair) _ (by omega)]
  | succ d ih =>
    intro i hi
    refine Ev.step (f := fun k => laws_toPairS.l0 k l ((l.map cv_Pair).take (i + 1) ++ List.replicate ((l.map cv_Pair).length - (i + 1)) z84) ((i + 1 : Nat) : Int)) (fun k => ?_) (ih (i + 1) (by omega))
    simp only [laws_toPairS.l0, laws_toPair.f]
    rw [if_pos (by omega), if_pos (by omega)]
    simp only [Option.bind_some]
    rw [if_pos (by rw [len_mid _ _ (by omega)]; omega), Int.toNat_natCast, wrS (by omega), set_next (l.map cv_Pair) _ _ i (by omega) (by rw [rds_Pair l (by omega), List.getElem_map]; rfl)]
theorem toPairS_ev (l : List S83) (h : l.length ≤ 4398046510976) : Ev (fun k => laws_toPairS.f k l) (l.map cv_Pair) := by
  unfold laws_toPairS.f
  rw [Int.toNat_natCast]
  simp only [if_pos (show (0 : Int) ≤ l.length by omega), if_pos (show l.length ≤ 8796093022208 by omega)]
  have := toPairS_l0 l h l.length 0 (by omega)
  rw [← set_first, List.length_map] at this
  exact this
theorem eqPair_self (a0 : ByteArray) (a1 : ByteArray) : laws_eqPair.f a0 a1 a0 a1 = some true := by unfold laws_eqPair.f; rw [if_pos rfl, if_pos rfl]
theorem eqPairS_l0 (l : List S84) (h : l.length ≤ 4398046510976) (d : Nat) : ∀ i : Nat, i + d = l.length → Ev (fun k => laws_eqPairS.l0 k l l (i : Int)) true := by
  induction d with
  | zero =>
    intro i hi
    refine Ev.step1 fun k => ?_
    simp only [laws_eqPairS.l0]
    rw [if_neg (by omega)]
  | succ d ih =>
    intro i hi
    refine Ev.step (f := fun k => laws_eqPairS.l0 k l l ((i + 1 : Nat) : Int)) (fun k => ?_) (ih (i + 1) (by omega))
    simp only [laws_eqPairS.l0]
    rw [if_pos (by omega), if_pos (by omega), if_pos (by omega), eqPair_self]
    simp only [Option.bind_some]
    rw [if_pos trivial, wrS (by omega)]
theorem eqPairS_self (l : List S84) (h : l.length ≤ 4398046510976) : Ev (fun k => laws_eqPairS.f k l l) true := by
  unfold laws_eqPairS.f
  simp only [if_pos trivial]
  exact eqPairS_l0 l h l.length 0 (by omega)
theorem szPair_some (a0 : ByteArray) (a1 : ByteArray) (n : Int) : ∃ r, laws_szPair.f a0 a1 n = some r := by
  unfold laws_szPair.f
  repeat (first | exact ⟨_, rfl⟩ | split)
theorem szPairS_l0 (l : List S83) (h : l.length ≤ 4398046510976) (d : Nat) : ∀ (i : Nat) (n : Int), i + d = l.length → ∃ r, Ev (fun k => laws_szPairS.l0 k l n (i : Int)) r := by
  induction d with
  | zero =>
    intro i n hi
    refine ⟨n, Ev.step1 fun k => ?_⟩
    simp only [laws_szPairS.l0]
    rw [if_neg (by omega)]
  | succ d ih =>
    intro i n hi
    obtain ⟨q, hq⟩ := szPair_some (rd_T83 l (i : Int)).f0 (rd_T83 l (i : Int)).f1 n
    by_cases c : q < 0
    · refine ⟨-1, Ev.step1 fun k => ?_⟩
      simp only [laws_szPairS.l0]
      rw [if_pos (by omega), if_pos (by omega), hq]
      simp only [Option.bind_some]
      rw [if_pos c]
    · obtain ⟨r, hr⟩ := ih (i + 1) q (by omega)
      refine ⟨r, Ev.step (fun k => ?_) hr⟩
      simp only [laws_szPairS.l0]
      rw [if_pos (by omega), if_pos (by omega), hq]
      simp only [Option.bind_some]
      rw [if_neg c, wrS (by omega)]
theorem szPairS_some (l : List S83) (h : l.length ≤ 4398046510976) (n : Int) : ∃ r, Ev (fun k => laws_szPairS.f k l n) r := by
  unfold laws_szPairS.f
  by_cases c : wrap64 (n - (l.length : Int)) < 0
  · simp only [if_pos c]; exact ⟨_, Ev.now _⟩
  · simp only [if_neg c]; exact szPairS_l0 l h l.length 0 _ (by omega)

/-! ### pairsOk -/
abbrev SPair := S84
def prAt (l : List SPair) (j : Nat) : SPair := l.getD j z84
theorem prAt_rd (l : List SPair) (j : Nat) : rd_T84 l (j : Int) = prAt l j := by unfold rd_T84 prAt; rw [Int.toNat_natCast]
def pairP (x : SPair) : Prop := keyP x.f0 ∧ valP x.f1
def prStep (l : List SPair) (j : Nat) : Prop := pairP (prAt l j) ∧ (0 < j → Op.bytesLess (prAt l (j - 1)).f0.toList (prAt l j).f0.toList = true)
def riseP (l : List SPair) : Prop := ∀ j, j < l.length → prStep l j
def pairsOk (l : List SPair) : Prop := riseP l ∧ l.length ≤ 200
theorem impl_pairOk_eq (x : SPair) : impl_pairOk.f x.f0 x.f1 = some (dec (pairP x)) := by
  unfold impl_pairOk.f
  rw [impl_KeyOk_eq, impl_ValOk_eq]
  simp only [Option.bind_some]
  by_cases h : keyP x.f0
  · rw [if_pos (decide_eq_true h), decide_dec]
    congr 1
    exact dec_eq ⟨fun k => ⟨h, k⟩, fun k => k.2⟩
  · rw [if_neg (fun e => h (of_decide_eq_true e)), dec_f (fun k => h k.1)]
theorem impl_rise_l0 (l : List SPair) (h : l.length ≤ 4398046510976) (d : Nat) : ∀ i : Nat, i + d = l.length →
    Ev (fun k => impl_rise.l0 k l l (l.length : Int) (i : Int)) (dec (∀ j, i ≤ j → j < l.length → prStep l j)) := by
  induction d with
  | zero =>
    intro i hi
    rw [dec_t (fun j h1 h2 => absurd h1 (by omega))]
    refine Ev.step1 fun k => ?_
    simp only [impl_rise.l0]
    rw [if_neg (by omega)]
  | succ d ih =>
    intro i hi
    by_cases c : prStep l i
    · rw [dec_eq (q := ∀ j, i + 1 ≤ j → j < l.length → prStep l j) ⟨fun f j h1 h2 => f j (by omega) h2, fun f j h1 h2 => by
        by_cases e : j = i
        · rw [e]; exact c
        · exact f j (by omega) h2⟩]
      refine Ev.step (f := fun k => impl_rise.l0 k l l (l.length : Int) ((i + 1 : Nat) : Int)) (fun k => ?_) (ih (i + 1) (by omega))
      simp only [impl_rise.l0]
      rw [if_pos (by omega), if_pos (by omega), if_pos (by omega), prAt_rd, impl_pairOk_eq]
      simp only [Option.bind_some]
      rw [if_pos (dec_t c.1)]
      by_cases h0 : (i : Int) > 0
      · rw [if_pos h0, wrP (by omega) (by omega), if_pos (by omega), if_pos (by omega), prAt_rd, if_pos (c.2 (by omega)), wrS (by omega)]
      · rw [if_neg h0, wrS (by omega)]
    · rw [dec_f (fun f => c (f i (Nat.le_refl _) (by omega)))]
      refine Ev.step1 fun k => ?_
      simp only [impl_rise.l0]
      rw [if_pos (by omega), if_pos (by omega), if_pos (by omega), prAt_rd, impl_pairOk_eq]
      simp only [Option.bind_some]
      by_cases c1 : pairP (prAt l i)
      · rw [if_pos (dec_t c1)]
        have h0 : 0 < i := by
          rcases Nat.eq_zero_or_pos i with h0 | h0
          · exact absurd ⟨c1, fun h => by omega⟩ c
          · exact h0
        rw [if_pos (by omega), wrP (by omega) (by omega), if_pos (by omega), if_pos (by omega), prAt_rd, if_neg (fun e => c ⟨c1, fun _ => e⟩)]
      · rw [if_neg (fun e => c1 (dec_iff.1 e))]
theorem impl_rise_ev (l : List SPair) (h : l.length ≤ 4398046510976) : Ev (fun k => impl_rise.f k l) (dec (riseP l)) := by
  unfold impl_rise.f
  rw [dec_eq (p := riseP l) (q := ∀ j, 0 ≤ j → j < l.length → prStep l j) ⟨fun f j _ h => f j h, fun f j h => f j (by omega) h⟩]
  exact impl_rise_l0 l h l.length 0 (by omega)
theorem impl_PairsOk_ev (l : List SPair) (h : l.length ≤ 4398046510976) : Ev (fun k => impl_PairsOk.f k l) (dec (pairsOk l)) := by
  unfold impl_PairsOk.f
  refine Ev.bind (impl_rise_ev l h) (Ev.one ?_)
  by_cases c : riseP l
  · rw [if_pos (dec_t c), decide_dec]
    congr 1
    exact dec_eq ⟨fun k => ⟨c, by omega⟩, fun k => by have := k.2; omega⟩
  · rw [if_neg (fun e => c (dec_iff.1 e)), dec_f (fun k => c k.1)]
theorem spec_PairsOk_l0 (l : List SPair) (h : l.length ≤ 4398046510976) (d : Nat) : ∀ i : Nat, i + d = l.length →
    Ev (fun k => spec_PairsOk.l0 k l l (l.length : Int) (i : Int)) (dec (∀ j, i ≤ j → j < l.length → prStep l j)) := by
  induction d with
  | zero =>
    intro i hi
    rw [dec_t (fun j h1 h2 => absurd h1 (by omega))]
    refine Ev.step1 fun k => ?_
    simp only [spec_PairsOk.l0]
    rw [if_neg (by omega)]
  | succ d ih =>
    intro i hi
    by_cases c : prStep l i
    · rw [dec_eq (q := ∀ j, i + 1 ≤ j → j < l.length → prStep l j) ⟨fun f j h1 h2 => f j (by omega) h2, fun f j h1 h2 => by
        by_cases e : j = i
        · rw [e]; exact c
        · exact f j (by omega) h2⟩]
      refine Ev.step (f := fun k => spec_PairsOk.l0 k l l (l.length : Int) ((i + 1 : Nat) : Int)) (fun k => ?_) (ih (i + 1) (by omega))
      simp only [spec_PairsOk.l0]
      rw [if_pos (by omega), if_pos (by omega), if_pos (by omega), prAt_rd, spec_KeyOk_eq, spec_ValOk_eq]
      simp only [Option.bind_some]
      rw [if_pos (decide_eq_true c.1.1), if_pos (decide_eq_true c.1.2)]
      by_cases h0 : (i : Int) > 0
      · rw [if_pos h0, wrP (by omega) (by omega), if_pos (by omega), if_pos (by omega), prAt_rd, if_pos (c.2 (by omega)), wrS (by omega)]
      · rw [if_neg h0, wrS (by omega)]
    · rw [dec_f (fun f => c (f i (Nat.le_refl _) (by omega)))]
      refine Ev.step1 fun k => ?_
      simp only [spec_PairsOk.l0]
      rw [if_pos (by omega), if_pos (by omega), if_pos (by omega), prAt_rd, spec_KeyOk_eq, spec_ValOk_eq]
      simp only [Option.bind_some]
      by_cases k1 : keyP (prAt l i).f0
      · rw [if_pos (decide_eq_true k1)]
        by_cases k2 : valP (prAt l i).f1
        · rw [if_pos (decide_eq_true k2)]
          have h0 : 0 < i := by
            rcases Nat.eq_zero_or_pos i with h0 | h0
            · exact absurd ⟨⟨k1, k2⟩, fun h => by omega⟩ c
            · exact h0
          rw [if_pos (by omega), wrP (by omega) (by omega), if_pos (by omega), if_pos (by omega), prAt_rd, if_neg (fun e => c ⟨⟨k1, k2⟩, fun _ => e⟩)]
        · rw [if_neg (fun e => k2 (of_decide_eq_true e))]
      · rw [if_neg (fun e => k1 (of_decide_eq_true e))]
theorem spec_PairsOk_ev (l : List SPair) (h : l.length ≤ 4398046510976) : Ev (fun k => spec_PairsOk.f k l) (dec (pairsOk l)) := by
  unfold spec_PairsOk.f
  by_cases c : (l.length : Int) > 200
  · simp only [if_pos c]; rw [dec_f (fun f => by have := f.2; omega)]; exact Ev.now _
  · simp only [if_neg c]
    rw [dec_eq (q := ∀ j, 0 ≤ j → j < l.length → prStep l j) ⟨fun f j _ h => f.1 j h, fun f => ⟨fun j h => f j (by omega) h, by omega⟩⟩]
    exact spec_PairsOk_l0 l h l.length 0 (by omega)

/-! ### law_FnExactPairsOk -/
theorem FnExactPairsOk (l0 : List (S83)) (g0 : G44 l0) : ∃ k, laws_FnExactPairsOk.f k l0 = some true := by
  have hl : l0.length ≤ 4398046510976 := by have := g0.1; omega
  have hm : (l0.map cv_Pair).length ≤ 4398046510976 := by rw [List.length_map]; exact hl
  refine Ev.rounds ?_
  unfold laws_FnExactPairsOk.f
  obtain ⟨r, hr⟩ := szPairS_some l0 hl 1048576
  refine Ev.bind hr ?_
  by_cases c : r < 0
  · simp only [if_pos c]; exact Ev.now _
  · simp only [if_neg c]
    refine Ev.bind (toPairS_ev l0 hl) (Ev.bind (spec_PairsOk_ev _ hm) (Ev.bind (toPairS_ev l0 hl) (Ev.bind (impl_PairsOk_ev _ hm) ?_)))
    simp only [if_neg (ne_self _)]
    refine Ev.bind (toPairS_ev l0 hl) (Ev.bind (eqPairS_self _ hm) (Ev.one ?_))
    rw [if_pos rfl]

end Go.Proofs.Ytcdnfonholkflaa.Pure
