/- The pure statement of FnExactMetaBytes: what the printed functions of this law compute answers true, for every argument within the bounds that the statement names. -/
import Derived.Test.YtcdnfonholkflaaPFnExactMetaBytesx2
import Derived.Test.YtcdnfonholkflaaLib
import Derived.Test.YtcdnfonholkflaaLibOrd
import Derived.Test.YtcdnfonholkflaaLibOpen
namespace Go.Proofs.Ytcdnfonholkflaa.Pure
open Go Go.RowKit Go.Proofs.Ytcdnfonholkflaa.PFnExactMetaBytes Go.Proofs.YtcdnfonholkflaaW.PrintWords Go.Proofs.YtcdnfonholkflaaW.PrintLast Go.Proofs.YtcdnfonholkflaaW.PrintMore Go.Proofs.Ytcdnfonholkflaa.Lib
set_option linter.unusedVariables false
set_option linter.unusedSimpArgs false

def G3 (x : Int) : Prop := (Lit.int .i64 x).wf = true
def G59 (x : (Int) × (Int)) : Prop := G3 x.1 ∧ G3 x.2

/-! ### within -/
theorem within_eq (x lo hi : Int) : impl_within.f x lo hi = some (decide (lo ≤ x ∧ x ≤ hi)) := by
  unfold impl_within.f
  by_cases h : x ≥ lo
  · rw [if_pos h]; simp [h]
  · rw [if_neg h]; simp; omega

/-! ### l01Num -/
theorem l01Num_eq (n : Int) : spec_l01Num.f n = some (decide (0 ≤ n ∧ n ≤ 1099511627775)) := by
  unfold spec_l01Num.f
  by_cases h : n ≥ 0
  · rw [if_pos h]; simp [h]
  · rw [if_neg h]; simp; omega

/-! ### metaOk -/
def metaOk (g r : Int) : Prop := (1 ≤ g ∧ g ≤ 1099511627775) ∧ (r = 0 ∨ (2 ≤ r ∧ r ≤ 399))
instance (g r : Int) : Decidable (metaOk g r) := inferInstanceAs (Decidable (_ ∧ _))
theorem spec_MetaOk_eq (g r : Int) : spec_MetaOk.f g r = some (decide (metaOk g r)) := by
  unfold spec_MetaOk.f
  by_cases h : g ≥ 1
  · rw [if_pos h, l01Num_eq]
    simp only [Option.bind_some, decide_eq_true_eq]
    by_cases h2 : 0 ≤ g ∧ g ≤ 1099511627775
    · rw [if_pos h2]
      by_cases h3 : r = 0
      · rw [if_pos h3]; exact sdt ⟨by omega, .inl h3⟩
      · rw [if_neg h3]
        by_cases h4 : r ≥ 2
        · rw [if_pos h4]; exact sd (by unfold metaOk; omega)
        · rw [if_neg h4]; exact sdf (by unfold metaOk; omega)
    · rw [if_neg h2]; exact sdf (by unfold metaOk; omega)
  · rw [if_neg h]; exact sdf (by unfold metaOk; omega)
theorem impl_MetaOk_eq (g r : Int) : impl_MetaOk.f g r = some (decide (metaOk g r)) := by
  unfold impl_MetaOk.f
  rw [within_eq, within_eq]
  simp only [Option.bind_some, decide_eq_true_eq]
  by_cases h2 : 1 ≤ g ∧ g ≤ 1099511627775
  · rw [if_pos h2]
    by_cases h3 : r = 0
    · rw [if_pos h3]; exact sdt ⟨h2, .inl h3⟩
    · rw [if_neg h3]; exact sd (by unfold metaOk; omega)
  · rw [if_neg h2]; exact sdf (by unfold metaOk; omega)

/-! ### fillD -/
def fill (b : List Int) (n : Int) : List Int × Bool := if 0 ≤ n ∧ n ≤ 4096 ∧ (b.length : Int) ≤ n then (b ++ List.replicate (n.toNat - b.length) 0, true) else ([], false)
theorem fill_len (b : List Int) (n : Int) : (fill b n).1.length ≤ 4096 := by
  unfold fill
  split
  · rename_i h; simp; omega
  · simp

/-! ### specFill -/
theorem spec_Fill_eq (b : List Int) (n : Int) : spec_Fill.f b n = some (fill b n) := by
  unfold spec_Fill.f fill
  by_cases c1 : n < 0
  · rw [if_pos c1, if_neg (by omega)]
  rw [if_neg c1]
  by_cases c2 : n > 4096
  · rw [if_pos c2, if_neg (by omega)]
  rw [if_neg c2]
  by_cases c3 : (b.length : Int) > n
  · rw [if_pos c3, if_neg (by omega)]
  rw [if_neg c3, if_pos (by omega)]
  simp only [Option.bind_some, List.nil_append, List.length_nil, Nat.zero_add]
  have e : (n - (b.length : Int)).toNat = n.toNat - b.length := by omega
  rw [if_pos (by omega), wr (by omega) (by omega), if_pos (by omega), if_pos (by omega), e]

/-! ### implFill -/
theorem impl_Fill_eq (b : List Int) (n : Int) : impl_Fill.f b n = some (fill b n) := by
  unfold impl_Fill.f fill
  rw [within_eq]
  simp only [Option.bind_some]
  by_cases c1 : 0 ≤ n ∧ n ≤ 4096
  · rw [if_pos (decide_eq_true c1)]
    by_cases c3 : (b.length : Int) > n
    · rw [if_pos c3, if_neg (by omega)]
    rw [if_neg c3, if_pos (show 0 ≤ n ∧ n ≤ 4096 ∧ (b.length : Int) ≤ n by omega), if_pos (by omega), if_pos (by omega)]
    rw [if_pos (by simp; omega), List.drop_replicate]
  · rw [if_neg (fun e => c1 (of_decide_eq_true e)), if_neg (by omega)]

/-! ### metaBytes -/
def five (n : Int) : List Int := [n / 4294967296 % 256, n / 16777216 % 256, n / 65536 % 256, n / 256 % 256, n % 256]
def metaB (g r : Int) : List Int := [77] ++ five g ++ [r / 256 % 256, r % 256] ++ List.replicate 499 0 ++ five g
def metaBytes (g r : Int) : List Int × Bool := if metaOk g r then (metaB g r, true) else ([], false)
theorem metaB_len (g r : Int) : (metaB g r).length = 512 := by simp only [metaB, five, List.length_append, List.length_replicate, List.length_cons, List.length_nil]
theorem metaBytes_len (g r : Int) : (metaBytes g r).1.length ≤ 512 := by
  unfold metaBytes
  split
  · rw [metaB_len]; exact Nat.le_refl _
  · simp
theorem five_step (n : Int) (h0 : 0 ≤ n) (h1 : n ≤ 1099511627775) (i : Nat) (acc : List Int) (w : Int) (hi : i < 5) (hw : rd ([4294967296, 16777216, 65536, 256, 1] : List Int) (i : Int) = w) (hp : 0 < w) (ha : acc.length ≤ 10) (k : Nat) :
    spec_l04Five.l0 (k + 1) n acc ([4294967296, 16777216, 65536, 256, 1] : List Int) 5 (i : Int) = spec_l04Five.l0 k n (acc ++ [n / w % 256]) ([4294967296, 16777216, 65536, 256, 1] : List Int) 5 ((i + 1 : Nat) : Int) := by
  have hd : 0 ≤ n / w := Int.ediv_nonneg h0 (by omega)
  have hd2 : n / w ≤ n := Int.ediv_le_self _ h0
  simp only [spec_l04Five.l0]
  rw [if_pos (by omega), if_pos (by omega), if_pos (by simp; omega), hw, if_neg (by omega), if_pos (by omega), wrS (by omega), tdiv_pos h0, wr (by omega) (by omega), tmod_pos hd, Int.emod_emod_of_dvd _ (Int.dvd_refl _)]
theorem spec_five (n : Int) (h0 : 0 ≤ n) (h1 : n ≤ 1099511627775) : Ev (fun k => spec_l04Five.f k n) (five n) := by
  unfold spec_l04Five.f
  simp only [Option.bind_some]
  refine Ev.step (five_step n h0 h1 0 [] 4294967296 (by omega) rfl (by omega) (by simp)) ?_
  refine Ev.step (five_step n h0 h1 1 _ 16777216 (by omega) rfl (by omega) (by simp)) ?_
  refine Ev.step (five_step n h0 h1 2 _ 65536 (by omega) rfl (by omega) (by simp)) ?_
  refine Ev.step (five_step n h0 h1 3 _ 256 (by omega) rfl (by omega) (by simp)) ?_
  refine Ev.step (five_step n h0 h1 4 _ 1 (by omega) rfl (by omega) (by simp)) ?_
  refine Ev.step1 fun k => ?_
  simp only [spec_l04Five.l0]
  rw [if_neg (by decide)]
  simp [five]
/-- A number in m bytes, the highest first. -/
def be (n : Int) : Nat → List Int
  | 0 => []
  | m + 1 => (n / 2 ^ (8 * m) % 256) :: be n m
theorem be_len (n : Int) (m : Nat) : (be n m).length = m := by induction m with
  | zero => rfl
  | succ m ih => simp [be, ih]
theorem high_l0 (n : Int) (m : Nat) : ∀ acc : List Int, m ≤ 8 → acc.length + m ≤ 100000 → Ev (fun k => impl_high.l0 k acc n ((m : Int) - 1)) (acc ++ be n m) := by
  induction m with
  | zero =>
    intro acc _ _
    refine Ev.step1 fun k => ?_
    simp only [impl_high.l0]
    rw [if_neg (by omega)]
    simp [be]
  | succ m ih =>
    intro acc hm ha
    refine Ev.step (fun k => ?_) (by have := ih (acc ++ [n / 2 ^ (8 * m) % 256]) (by omega) (by simp; omega); rw [List.append_assoc] at this; exact this)
    simp only [impl_high.l0]
    have e : ((m + 1 : Nat) : Int) - 1 = (m : Int) := by omega
    have e2 : shr .i64 n (8 * (m : Int)) = n / 2 ^ (8 * m) := by
      unfold shr
      rw [Nat.min_eq_left (show (8 * (m : Int)).toNat ≤ IntKind.i64.bits from (show (8 * (m : Int)).toNat ≤ 64 by omega)), show (8 * (m : Int)).toNat = 8 * m by omega]
    rw [e, if_pos (by omega), wr (n := 8 * (m : Int)) (by omega) (by omega), if_pos (by omega), if_pos (by omega), e2, wr (by omega) (by omega)]
theorem high_ev (acc : List Int) (n : Int) (m : Nat) (hm : m ≤ 8) (ha : acc.length ≤ 10000) : Ev (fun k => impl_high.f k acc n (m : Int)) (acc ++ be n m) := by
  unfold impl_high.f
  rw [wr (by omega) (by omega)]
  exact high_l0 n m acc hm (by omega)
theorem be5 (n : Int) : be n 5 = five n := by simp [be, five]
theorem be2 (n : Int) : be n 2 = [n / 256 % 256, n % 256] := by simp [be]
theorem fill8 (l : List Int) (h : l.length = 8) : fill l 507 = (l ++ List.replicate 499 0, true) := by
  unfold fill
  rw [if_pos (by omega), h]
  rfl
theorem spec_MetaBytes_ev (g r : Int) : Ev (fun k => spec_MetaBytes.f k g r) (metaBytes g r) := by
  unfold spec_MetaBytes.f metaBytes
  rw [spec_MetaOk_eq]
  simp only [Option.bind_some]
  by_cases c : metaOk g r
  · have hg := c.1
    have hr : 0 ≤ r ∧ r ≤ 399 := by have := c.2; omega
    rw [if_pos c]
    simp only [if_pos (decide_eq_true c)]
    have h5 := spec_five g (by omega) hg.2
    refine Ev.bind h5 ?_
    simp only [if_pos (show ([77] : List Int).length + (five g).length < 140737488355328 by simp only [five, List.length_cons, List.length_nil]; omega)]
    have e1 : (wrap64 (Int.tdiv r 256)) % 256 = r / 256 % 256 := by rw [tdiv_pos hr.1, wr (by omega) (by omega)]
    have e2 : (Int.tmod r 256) % 256 = r % 256 := by rw [tmod_pos hr.1, Int.emod_emod_of_dvd _ (Int.dvd_refl _)]
    simp only [e1, e2]
    simp only [if_pos (show ([77] ++ five g : List Int).length + ([r / 256 % 256, r % 256] : List Int).length < 140737488355328 by simp [five])]
    rw [spec_Fill_eq, fill8 _ (by simp [five])]
    simp only [Option.bind_some]
    refine Ev.bind h5 (Ev.one ?_)
    rw [if_pos (by simp only [five, List.length_append, List.length_replicate, List.length_cons, List.length_nil]; omega)]
    rfl
  · simp only [if_neg (fun e => c (of_decide_eq_true e))]
    rw [if_neg c]
    exact Ev.now _
theorem impl_MetaBytes_ev (g r : Int) : Ev (fun k => impl_MetaBytes.f k g r) (metaBytes g r) := by
  unfold impl_MetaBytes.f metaBytes
  rw [impl_MetaOk_eq]
  simp only [Option.bind_some]
  by_cases c : metaOk g r
  · rw [if_pos c]
    simp only [if_pos (decide_eq_true c)]
    refine Ev.bind (high_ev [77] g 5 (by omega) (by decide)) (Ev.bind (high_ev _ r 2 (by omega) (by simp [be_len])) ?_)
    rw [be5, be2, impl_Fill_eq, fill8 _ (by simp [five])]
    simp only [Option.bind_some]
    refine Ev.bind (high_ev _ g 5 (by omega) (by simp only [five, List.length_append, List.length_replicate, List.length_cons, List.length_nil]; omega)) (Ev.one ?_)
    rw [be5]
    rfl
  · simp only [if_neg (fun e => c (of_decide_eq_true e))]
    rw [if_neg c]
    exact Ev.now _

/-! ### eqByteS -/
theorem eqByteS_l0 (l : List Int) (h : l.length ≤ 140737488351232) (d : Nat) : ∀ i : Nat, i + d = l.length → Ev (fun k => laws_eqByteS.l0 k l l (i : Int)) true := by
  induction d with
  | zero =>
    intro i hi
    refine Ev.step1 fun k => ?_
    simp only [laws_eqByteS.l0]
    rw [if_neg (by omega)]
  | succ d ih =>
    intro i hi
    refine Ev.step (f := fun k => laws_eqByteS.l0 k l l ((i + 1 : Nat) : Int)) (fun k => ?_) (ih (i + 1) (by omega))
    simp only [laws_eqByteS.l0]
    rw [if_pos (by omega), if_pos (by omega), if_pos (by omega), if_pos trivial, wrS (by omega)]
theorem eqByteS_self (l : List Int) (h : l.length ≤ 140737488351232) : Ev (fun k => laws_eqByteS.f k l l) true := by
  unfold laws_eqByteS.f
  simp only [if_pos trivial]
  exact eqByteS_l0 l h l.length 0 (by omega)

/-! ### markByteS -/
theorem markByteS_l0 (l : List Int) (a : Int) (h : l.length ≤ 140737488351232) (h0 : 0 ≤ a) (h1 : a ≤ 4611686018427387904) (d : Nat) : ∀ i : Nat, i + d = l.length →
    Ev (fun k => laws_markByteS.l0 k (pat a i ++ l.drop i) (a + i) (i : Int)) (a + l.length, pat a l.length) := by
  induction d with
  | zero =>
    intro i hi
    refine Ev.step1 fun k => ?_
    simp only [laws_markByteS.l0]
    rw [if_neg (by rw [pat_drop_len _ _ (by omega)]; omega), List.drop_of_length_le (by omega), List.append_nil, show i = l.length by omega]
  | succ d ih =>
    intro i hi
    refine Ev.step (f := fun k => laws_markByteS.l0 k (pat a (i + 1) ++ l.drop (i + 1)) (a + ((i + 1 : Nat) : Int)) ((i + 1 : Nat) : Int)) (fun k => ?_) (ih (i + 1) (by omega))
    simp only [laws_markByteS.l0]
    rw [if_pos (by rw [pat_drop_len _ _ (by omega)]; omega), if_pos (by omega), Int.toNat_natCast, pat_set (by omega), wrS (by omega), wr (by omega) (by omega), show a + (i : Int) + 1 = a + ((i + 1 : Nat) : Int) by omega]
theorem markByteS_ev (l : List Int) (a : Int) (h : l.length ≤ 140737488351232) (h0 : 0 ≤ a) (h1 : a ≤ 4611686018427387904) :
    Ev (fun k => laws_markByteS.f k l a) (a + l.length, pat a l.length) := by
  unfold laws_markByteS.f
  have := markByteS_l0 l a h h0 h1 l.length 0 (by omega)
  simpa [pat] using this

/-! ### heldByteS -/
theorem heldByteS_l0 (n : Nat) (a : Int) (h : n ≤ 140737488351232) (h0 : 0 ≤ a) (h1 : a ≤ 4611686018427387904) (d : Nat) : ∀ i : Nat, i + d = n →
    Ev (fun k => laws_heldByteS.l0 k (pat a n) (a + i) (i : Int)) (a + n) := by
  induction d with
  | zero =>
    intro i hi
    refine Ev.step1 fun k => ?_
    simp only [laws_heldByteS.l0]
    rw [if_neg (by rw [pat_len]; omega), show i = n by omega]
  | succ d ih =>
    intro i hi
    refine Ev.step (f := fun k => laws_heldByteS.l0 k (pat a n) (a + ((i + 1 : Nat) : Int)) ((i + 1 : Nat) : Int)) (fun k => ?_) (ih (i + 1) (by omega))
    simp only [laws_heldByteS.l0]
    rw [if_pos (by rw [pat_len]; omega), if_pos (by omega), if_pos (rd_pat (by omega)), wrS (by omega), wr (by omega) (by omega), show a + (i : Int) + 1 = a + ((i + 1 : Nat) : Int) by omega]
theorem heldByteS_ev (n : Nat) (a : Int) (h : n ≤ 140737488351232) (h0 : 0 ≤ a) (h1 : a ≤ 4611686018427387904) : Ev (fun k => laws_heldByteS.f k (pat a n) a) (a + n) := by
  unfold laws_heldByteS.f
  have := heldByteS_l0 n a h h0 h1 n 0 (by omega)
  simpa using this

/-! ### law_FnExactMetaBytes -/
theorem FnExactMetaBytes (x0_0 : Int) (x0_1 : Int) (g0 : G59 (x0_0, x0_1)) : ∃ k, laws_FnExactMetaBytes.f k x0_0 x0_1 = some true := by
  have hp := metaBytes_len x0_0 x0_1
  obtain ⟨g, ok⟩ : ∃ g, g = metaBytes x0_0 x0_1 := ⟨_, rfl⟩
  have hs := spec_MetaBytes_ev x0_0 x0_1
  have hi := impl_MetaBytes_ev x0_0 x0_1
  rw [← ok] at hs hi hp
  have hq := eqByteS_self g.1 (by omega)
  have hm := markByteS_ev g.1 1 (by omega) (by omega) (by omega)
  have hd := heldByteS_ev g.1.length 1 (by omega) (by omega) (by omega)
  refine Ev.rounds ?_
  unfold laws_FnExactMetaBytes.f
  simp only [laws_toMeta.f, Option.bind_some]
  refine Ev.bind hs (Ev.bind hi (Ev.bind hq ?_))
  simp only [if_true, bne_self_eq_false]
  refine Ev.step (f := fun k => _) (fun k => by simp only [laws_FnExactMetaBytes.j0]; rfl) ?_
  simp only [Bool.false_eq_true, if_false]
  refine Ev.bind hm (Ev.bind hd ?_)
  simp only [if_neg (show ¬ ((1 : Int) + (g.1.length : Int) < 0) by omega), if_true, laws_toMeta.f, Option.bind_some]
  refine Ev.bind hi (Ev.bind hq ?_)
  simp only [if_true, bne_self_eq_false]
  refine Ev.step (f := fun k => _) (fun k => by simp only [laws_FnExactMetaBytes.j1]; rfl) ?_
  simp only [Bool.false_eq_true, if_false]
  refine Ev.bind hd (Ev.one ?_)
  rw [if_neg (by omega), if_pos rfl]

end Go.Proofs.Ytcdnfonholkflaa.Pure
