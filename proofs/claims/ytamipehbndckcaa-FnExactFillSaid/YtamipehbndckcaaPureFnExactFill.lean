/- The pure statement of FnExactFill: what the printed functions of this law compute answers true, for every argument within the bounds that the statement names. -/
import Derived.Test.YtamipehbndckcaaPFnExactFillx2
import Derived.Test.YtamipehbndckcaaLib
import Derived.Test.YtamipehbndckcaaLibOrd
import Derived.Test.YtamipehbndckcaaLibOpen
namespace Go.Proofs.Ytamipehbndckcaa.Pure
open Go Go.RowKit Go.Proofs.Ytamipehbndckcaa.PFnExactFill Go.Proofs.YtamipehbndckcaaW.PrintWords Go.Proofs.YtamipehbndckcaaW.PrintLast Go.Proofs.YtamipehbndckcaaW.PrintMore Go.Proofs.Ytamipehbndckcaa.Lib
set_option linter.unusedVariables false
set_option linter.unusedSimpArgs false

def G5 (x : Int) : Prop := (Lit.int .u8 x).wf = true
def G43 (xs : List (Int)) : Prop := xs.length * 1 ≤ 140737488351232 ∧ ∀ x ∈ xs, G5 x

/-! ### fillD -/
def fill (b : List Int) (n : Int) : List Int × Bool := if 0 ≤ n ∧ n ≤ 4096 ∧ (b.length : Int) ≤ n then (b ++ List.replicate (n.toNat - b.length) 0, true) else ([], false)
theorem fill_len (b : List Int) (n : Int) : (fill b n).1.length ≤ 4096 := by
  unfold fill
  split
  · rename_i h; simp; omega
  · simp

/-! ### specFill -/
theorem spec_Fill_eq (b : List Int) (n : Int) : spec_Fill.f b n = some (fill b n) := by
  unfold spec_Fill.f fill
  by_cases c1 : n < 0
  · rw [if_pos c1, if_neg (by omega)]
  rw [if_neg c1]
  by_cases c2 : n > 4096
  · rw [if_pos c2, if_neg (by omega)]
  rw [if_neg c2]
  by_cases c3 : (b.length : Int) > n
  · rw [if_pos c3, if_neg (by omega)]
  rw [if_neg c3, if_pos (by omega)]
  simp only [Option.bind_some, List.nil_append, List.length_nil, Nat.zero_add]
  have e : (n - (b.length : Int)).toNat = n.toNat - b.length := by omega
  rw [if_pos (by omega), wr (by omega) (by omega), if_pos (by omega), if_pos (by omega), e]

/-! ### within -/
theorem within_eq (x lo hi : Int) : impl_within.f x lo hi = some (decide (lo ≤ x ∧ x ≤ hi)) := by
  unfold impl_within.f
  by_cases h : x ≥ lo
  · rw [if_pos h]; simp [h]
  · rw [if_neg h]; simp; omega

/-! ### implFill -/
theorem impl_Fill_eq (b : List Int) (n : Int) : impl_Fill.f b n = some (fill b n) := by
  unfold impl_Fill.f fill
  rw [within_eq]
  simp only [Option.bind_some]
  by_cases c1 : 0 ≤ n ∧ n ≤ 4096
  · rw [if_pos (decide_eq_true c1)]
    by_cases c3 : (b.length : Int) > n
    · rw [if_pos c3, if_neg (by omega)]
    rw [if_neg c3, if_pos (show 0 ≤ n ∧ n ≤ 4096 ∧ (b.length : Int) ≤ n by omega), if_pos (by omega), if_pos (by omega)]
    rw [if_pos (by simp; omega), List.drop_replicate]
  · rw [if_neg (fun e => c1 (of_decide_eq_true e)), if_neg (by omega)]

/-! ### toByteS -/
theorem toByteS_l0 (l : List Int) (h : l.length ≤ 140737488351232) (d : Nat) : ∀ i : Nat, i + d = l.length →
    Ev (fun k => laws_toByteS.l0 k l (l.take i ++ List.replicate (l.length - i) 0) (i : Int)) l := by
  induction d with
  | zero =>
    intro i hi
    refine Ev.step1 fun k => ?_
    simp only [laws_toByteS.l0]
    rw [if_neg (by omega), set_last l 0 (by omega)]
  | succ d ih =>
    intro i hi
    refine Ev.step (f := fun k => laws_toByteS.l0 k l (l.take (i + 1) ++ List.replicate (l.length - (i + 1)) 0) ((i + 1 : Nat) : Int)) (fun k => ?_) (ih (i + 1) (by omega))
    simp only [laws_toByteS.l0]
    rw [if_pos (by omega), if_pos (by omega), if_pos (by rw [len_mid _ _ (by omega)]; omega), Int.toNat_natCast, wrS (by omega), set_next l 0 _ i (by omega) (rd_nat (by omega))]
theorem toByteS_ev (l : List Int) (h : l.length ≤ 140737488351232) : Ev (fun k => laws_toByteS.f k l) l := by
  unfold laws_toByteS.f
  rw [Int.toNat_natCast]
  simp only [if_pos (show (0 : Int) ≤ l.length by omega), if_pos (show l.length ≤ 281474976710656 by omega)]
  rw [set_first]
  exact toByteS_l0 l h l.length 0 (by omega)

/-! ### eqByteS -/
theorem eqByteS_l0 (l : List Int) (h : l.length ≤ 140737488351232) (d : Nat) : ∀ i : Nat, i + d = l.length → Ev (fun k => laws_eqByteS.l0 k l l (i : Int)) true := by
  induction d with
  | zero =>
    intro i hi
    refine Ev.step1 fun k => ?_
    simp only [laws_eqByteS.l0]
    rw [if_neg (by omega)]
  | succ d ih =>
    intro i hi
    refine Ev.step (f := fun k => laws_eqByteS.l0 k l l ((i + 1 : Nat) : Int)) (fun k => ?_) (ih (i + 1) (by omega))
    simp only [laws_eqByteS.l0]
    rw [if_pos (by omega), if_pos (by omega), if_pos (by omega), if_pos trivial, wrS (by omega)]
theorem eqByteS_self (l : List Int) (h : l.length ≤ 140737488351232) : Ev (fun k => laws_eqByteS.f k l l) true := by
  unfold laws_eqByteS.f
  simp only [if_pos trivial]
  exact eqByteS_l0 l h l.length 0 (by omega)

/-! ### markByteS -/
theorem markByteS_l0 (l : List Int) (a : Int) (h : l.length ≤ 140737488351232) (h0 : 0 ≤ a) (h1 : a ≤ 4611686018427387904) (d : Nat) : ∀ i : Nat, i + d = l.length →
    Ev (fun k => laws_markByteS.l0 k (pat a i ++ l.drop i) (a + i) (i : Int)) (a + l.length, pat a l.length) := by
  induction d with
  | zero =>
    intro i hi
    refine Ev.step1 fun k => ?_
    simp only [laws_markByteS.l0]
    rw [if_neg (by rw [pat_drop_len _ _ (by omega)]; omega), List.drop_of_length_le (by omega), List.append_nil, show i = l.length by omega]
  | succ d ih =>
    intro i hi
    refine Ev.step (f := fun k => laws_markByteS.l0 k (pat a (i + 1) ++ l.drop (i + 1)) (a + ((i + 1 : Nat) : Int)) ((i + 1 : Nat) : Int)) (fun k => ?_) (ih (i + 1) (by omega))
    simp only [laws_markByteS.l0]
    rw [if_pos (by rw [pat_drop_len _ _ (by omega)]; omega), if_pos (by omega), Int.toNat_natCast, pat_set (by omega), wrS (by omega), wr (by omega) (by omega), show a + (i : Int) + 1 = a + ((i + 1 : Nat) : Int) by omega]
theorem markByteS_ev (l : List Int) (a : Int) (h : l.length ≤ 140737488351232) (h0 : 0 ≤ a) (h1 : a ≤ 4611686018427387904) :
    Ev (fun k => laws_markByteS.f k l a) (a + l.length, pat a l.length) := by
  unfold laws_markByteS.f
  have := markByteS_l0 l a h h0 h1 l.length 0 (by omega)
  simpa [pat] using this

/-! ### heldByteS -/
theorem heldByteS_l0 (n : Nat) (a : Int) (h : n ≤ 140737488351232) (h0 : 0 ≤ a) (h1 : a ≤ 4611686018427387904) (d : Nat) : ∀ i : Nat, i + d = n →
    Ev (fun k => laws_heldByteS.l0 k (pat a n) (a + i) (i : Int)) (a + n) := by
  induction d with
  | zero =>
    intro i hi
    refine Ev.step1 fun k => ?_
    simp only [laws_heldByteS.l0]
    rw [if_neg (by rw [pat_len]; omega), show i = n by omega]
  | succ d ih =>
    intro i hi
    refine Ev.step (f := fun k => laws_heldByteS.l0 k (pat a n) (a + ((i + 1 : Nat) : Int)) ((i + 1 : Nat) : Int)) (fun k => ?_) (ih (i + 1) (by omega))
    simp only [laws_heldByteS.l0]
    rw [if_pos (by rw [pat_len]; omega), if_pos (by omega), if_pos (rd_pat (by omega)), wrS (by omega), wr (by omega) (by omega), show a + (i : Int) + 1 = a + ((i + 1 : Nat) : Int) by omega]
theorem heldByteS_ev (n : Nat) (a : Int) (h : n ≤ 140737488351232) (h0 : 0 ≤ a) (h1 : a ≤ 4611686018427387904) : Ev (fun k => laws_heldByteS.f k (pat a n) a) (a + n) := by
  unfold laws_heldByteS.f
  have := heldByteS_l0 n a h h0 h1 n 0 (by omega)
  simpa using this

/-! ### law_FnExactFill -/
theorem FnExactFill (l0 : List (Int)) (g0 : G43 l0) (a1 : Int) (w1 : (Lit.int .i64 a1).wf = true) : ∃ k, laws_FnExactFill.f k l0 a1 = some true := by
  have hl : l0.length ≤ 140737488351232 := by have := g0.1; omega
  have hp := fill_len l0 a1
  obtain ⟨g, ok⟩ : ∃ g, g = fill l0 a1 := ⟨_, rfl⟩
  have ht := toByteS_ev l0 hl
  have hs : Ev (fun _ => spec_Fill.f l0 a1) (fill l0 a1) := Ev.one (spec_Fill_eq l0 a1)
  have hi : Ev (fun _ => impl_Fill.f l0 a1) (fill l0 a1) := Ev.one (impl_Fill_eq l0 a1)
  rw [← ok] at hs hi hp
  have hq := eqByteS_self g.1 (by omega)
  have hm := markByteS_ev g.1 1 (by omega) (by omega) (by omega)
  have hd := heldByteS_ev g.1.length 1 (by omega) (by omega) (by omega)
  have hx := markByteS_ev l0 1 (by omega) (by omega) (by omega)
  refine Ev.rounds ?_
  unfold laws_FnExactFill.f
  by_cases c : (l0.length : Int) > 1048576
  · simp only [if_pos c]; exact Ev.now _
  · simp only [if_neg c]
    refine Ev.bind ht (Ev.bind hs (Ev.bind ht (Ev.bind hi (Ev.bind hq ?_))))
    simp only [if_true, bne_self_eq_false]
    refine Ev.step (f := fun k => _) (fun k => by simp only [laws_FnExactFill.j0]; rfl) ?_
    simp only [Bool.false_eq_true, if_false]
    refine Ev.bind ht (Ev.bind (eqByteS_self l0 hl) ?_)
    simp only [if_true]
    refine Ev.bind hx ?_
    simp only [if_neg (show ¬ ((1 : Int) + (l0.length : Int) < 0) by omega)]
    refine Ev.bind hq ?_
    simp only [if_true, bne_self_eq_false]
    refine Ev.step (f := fun k => _) (fun k => by simp only [laws_FnExactFill.j1]; rfl) ?_
    simp only [Bool.false_eq_true, if_false]
    refine Ev.bind hm (Ev.bind hd ?_)
    simp only [if_neg (show ¬ ((1 : Int) + (g.1.length : Int) < 0) by omega), if_true]
    refine Ev.bind ht (Ev.bind hi (Ev.bind hq ?_))
    simp only [if_true, bne_self_eq_false]
    refine Ev.step (f := fun k => _) (fun k => by simp only [laws_FnExactFill.j2]; rfl) ?_
    simp only [Bool.false_eq_true, if_false]
    refine Ev.bind hd (Ev.one ?_)
    rw [if_neg (by omega), if_pos rfl]

end Go.Proofs.Ytamipehbndckcaa.Pure
