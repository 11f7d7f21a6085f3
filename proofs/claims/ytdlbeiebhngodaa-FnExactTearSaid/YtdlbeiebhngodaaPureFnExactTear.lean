/- The pure statement of FnExactTear: what the printed functions of this law compute answers true, for every argument within the bounds that the statement names. -/
import Derived.Test.YtdlbeiebhngodaaPFnExactTearx3
import Derived.Test.YtdlbeiebhngodaaLib
import Derived.Test.YtdlbeiebhngodaaLibOrd
import Derived.Test.YtdlbeiebhngodaaLibOpen
namespace Go.Proofs.Ytdlbeiebhngodaa.Pure
open Go Go.RowKit Go.Proofs.Ytdlbeiebhngodaa.PFnExactTear Go.Proofs.YtdlbeiebhngodaaW.PrintWords Go.Proofs.YtdlbeiebhngodaaW.PrintLast Go.Proofs.YtdlbeiebhngodaaW.PrintMore Go.Proofs.Ytdlbeiebhngodaa.Lib
set_option linter.unusedVariables false
set_option linter.unusedSimpArgs false

def G5 (x : Int) : Prop := (Lit.int .u8 x).wf = true
def G22 (xs : List (Int)) : Prop := xs.length * 1 ≤ 140737488351232 ∧ ∀ x ∈ xs, G5 x

/-! ### tearD -/
def sheet (l : List Int) : List Int := if l.length = 0 then List.replicate 512 0 else l
def clamp (n : Int) : Nat := (max 0 (min n 512)).toNat
theorem clamp_le (n : Int) : clamp n ≤ 512 := by unfold clamp; omega
def tearL (a b : List Int) (n : Int) : List Int := if (sheet a).length = 512 ∧ (sheet b).length = 512 then (sheet b).take (clamp n) ++ (sheet a).drop (clamp n) else []
theorem sheet_of {l : List Int} (h : l.length = 512) : sheet l = l := by unfold sheet; rw [if_neg (by omega)]
theorem tearL_of {a b : List Int} (ha : a.length = 512) (hb : b.length = 512) (n : Int) : tearL a b n = b.take (clamp n) ++ a.drop (clamp n) := by unfold tearL; rw [sheet_of ha, sheet_of hb, if_pos ⟨ha, hb⟩]

/-! ### specTear -/
theorem spec_l04Sheet_eq (l : List Int) (h : l.length < 140737488355328) : spec_l04Sheet.f l = some (sheet l, (sheet l).length == 512) := by
  unfold spec_l04Sheet.f sheet
  by_cases c : (l.length : Int) = 0
  · rw [if_pos c, if_pos (by decide), if_pos (show l.length = 0 by omega), List.length_replicate]; rfl
  · rw [if_neg c, if_neg (show ¬ l.length = 0 by omega)]
    simp only [Option.bind_some, List.nil_append, List.length_nil, Nat.zero_add]
    rw [if_pos h]
    have : ((l.length : Int) == 512) = (l.length == 512) := by
      rw [Bool.eq_iff_iff]; simp only [beq_iff_eq]; omega
    rw [this]
theorem spec_Tear_l0 (a b : List Int) (n : Int) (ha : a.length = 512) (hb : b.length = 512) (d : Nat) : ∀ i : Nat, i + d = clamp n →
    Ev (fun k => spec_Tear.l0 k n (b.take i ++ a.drop i) b (i : Int)) (b.take (clamp n) ++ a.drop (clamp n)) := by
  have hc := clamp_le n
  have hcn : (clamp n : Int) = max 0 (min n 512) := by unfold clamp; omega
  induction d with
  | zero =>
    intro i hi
    refine Ev.step1 fun k => ?_
    simp only [spec_Tear.l0]
    by_cases c : (i : Int) < 512
    · rw [if_pos c, if_neg (by omega), show i = clamp n by omega]
    · rw [if_neg c, show i = clamp n by omega]
  | succ d ih =>
    intro i hi
    have hL : (b.take i ++ a.drop i).length = 512 := by rw [List.length_append, List.length_take, List.length_drop]; omega
    have hr : rd b (i : Int) = b[i]'(by omega) := by unfold rd; rw [Int.toNat_natCast]; exact getD_lt _ _ (by omega)
    have hs : (b.take i ++ a.drop i).set i (b[i]'(by omega)) = b.take (i + 1) ++ a.drop (i + 1) := by
      have e : (b.take i).length = i := by rw [List.length_take]; omega
      rw [List.set_append_right _ _ (by omega), e, Nat.sub_self, List.drop_eq_getElem_cons (by omega), List.set_cons_zero, List.take_succ_eq_append_getElem (by omega), List.append_assoc]
      rfl
    refine Ev.step (f := fun k => spec_Tear.l0 k n (b.take (i + 1) ++ a.drop (i + 1)) b ((i + 1 : Nat) : Int)) (fun k => ?_) (ih (i + 1) (by omega))
    simp only [spec_Tear.l0]
    rw [if_pos (by omega), if_pos (by omega), if_pos (by omega), if_pos (by omega), if_pos (by rw [hL]; omega), hr, Int.toNat_natCast, hs, wrS (by omega)]
theorem spec_Tear_ev (a b : List Int) (n : Int) (ha : a.length < 140737488355328) (hb : b.length < 140737488355328) : Ev (fun k => spec_Tear.f k a b n) (tearL a b n) := by
  unfold spec_Tear.f tearL
  rw [spec_l04Sheet_eq a ha, spec_l04Sheet_eq b hb]
  simp only [Option.bind_some]
  by_cases ca : (sheet a).length = 512
  · simp only [ca, beq_self_eq_true, if_true]
    by_cases cb : (sheet b).length = 512
    · simp only [cb, beq_self_eq_true, and_self, if_true]
      refine Ev.step (f := fun k => spec_Tear.l0 k n (sheet a) (sheet b) 0) (fun k => by simp only [spec_Tear.j0, Bool.not_true, Bool.false_eq_true, if_false]) ?_
      exact spec_Tear_l0 _ _ n ca cb (clamp n) 0 (by omega)
    · rw [if_neg (fun f => cb f.2)]
      have : ((sheet b).length == 512) = false := by simpa using cb
      rw [this]
      exact Ev.step1 fun k => by simp only [spec_Tear.j0, Bool.not_false, if_true]
  · rw [if_neg (fun f => ca f.1)]
    have : ((sheet a).length == 512) = false := by simpa using ca
    rw [this]
    simp only [Bool.false_eq_true, if_false]
    exact Ev.step1 fun k => by simp only [spec_Tear.j0, if_true]
theorem tearL_len (a b : List Int) (n : Int) : (tearL a b n).length ≤ 512 := by
  unfold tearL
  by_cases c : (sheet a).length = 512 ∧ (sheet b).length = 512
  · rw [if_pos c, List.length_append, List.length_take, List.length_drop]; have := clamp_le n; omega
  · rw [if_neg c]; exact Nat.zero_le _

/-! ### implTear -/
theorem tear_core (x y : List Int) (c : Nat) (hc : c ≤ 512) : (if (x.length : Int) = 512 then (if (y.length : Int) = 512 then (if 0 ≤ (c : Int) then (if (c : Int) ≤ (y.length : Int) then (if (y.take c).length < 140737488355328 then (if (c : Int) ≤ (x.length : Int) then (if (y.take c).length + (x.drop c).length < 140737488355328 then (some (y.take c ++ x.drop c)) else (none)) else (none)) else (none)) else (none)) else (none)) else (some ([] : List Int))) else (some ([] : List Int))) = some (if x.length = 512 ∧ y.length = 512 then y.take c ++ x.drop c else []) := by
  by_cases ca : (x.length : Int) = 512
  · rw [if_pos ca]
    by_cases cl : (y.length : Int) = 512
    · rw [if_pos cl, if_pos (by omega), if_pos (by omega), if_pos (by rw [List.length_take]; omega), if_pos (by omega), if_pos (by simp only [List.length_take, List.length_drop]; omega), if_pos ⟨by omega, by omega⟩]
    · rw [if_neg cl, if_neg (fun f => cl (by omega))]
  · rw [if_neg ca, if_neg (fun f => ca (by omega))]
theorem sheet_nil {l : List Int} (h : (l.length : Int) = 0) : sheet l = List.replicate 512 0 := by unfold sheet; rw [if_pos (by omega)]
theorem sheet_one {l : List Int} (h : ¬ (l.length : Int) = 0) : sheet l = l := by unfold sheet; rw [if_neg (by omega)]
theorem impl_Tear_eq (a b : List Int) (n : Int) : impl_Tear.f a b n = some (tearL a b n) := by
  have hc := clamp_le n
  have hm : (mx 0 (mn n 512) : Int) = (clamp n : Int) := by unfold clamp mx mn; split <;> split <;> omega
  have h5 : (512 : Nat) ≤ 281474976710656 := by decide
  unfold impl_Tear.f tearL
  simp only [Option.bind_some, hm, Int.toNat_natCast, List.nil_append, List.length_nil, Nat.zero_add, if_pos h5]
  by_cases ca : (a.length : Int) = 0
  · rw [if_pos ca, sheet_nil ca]
    by_cases cb : (b.length : Int) = 0
    · rw [if_pos cb, sheet_nil cb]; exact tear_core _ _ _ hc
    · rw [if_neg cb, sheet_one cb]; exact tear_core _ _ _ hc
  · rw [if_neg ca, sheet_one ca]
    by_cases cb : (b.length : Int) = 0
    · rw [if_pos cb, sheet_nil cb]; exact tear_core _ _ _ hc
    · rw [if_neg cb, sheet_one cb]; exact tear_core _ _ _ hc

/-! ### toByteS -/
theorem toByteS_l0 (l : List Int) (h : l.length ≤ 140737488351232) (d : Nat) : ∀ i : Nat, i + d = l.length →
    Ev (fun k => laws_toByteS.l0 k l (l.take i ++ List.replicate (l.length - i) 0) (i : Int)) l := by
  induction d with
  | zero =>
    intro i hi
    refine Ev.step1 fun k => ?_
    simp only [laws_toByteS.l0]
    rw [if_neg (by omega), set_last l 0 (by omega)]
  | succ d ih =>
    intro i hi
    refine Ev.step (f := fun k => laws_toByteS.l0 k l (l.take (i + 1) ++ List.replicate (l.length - (i + 1)) 0) ((i + 1 : Nat) : Int)) (fun k => ?_) (ih (i + 1) (by omega))
    simp only [laws_toByteS.l0]
    rw [if_pos (by omega), if_pos (by omega), if_pos (by rw [len_mid _ _ (by omega)]; omega), Int.toNat_natCast, wrS (by omega), set_next l 0 _ i (by omega) (rd_nat (by omega))]
theorem toByteS_ev (l : List Int) (h : l.length ≤ 140737488351232) : Ev (fun k => laws_toByteS.f k l) l := by
  unfold laws_toByteS.f
  rw [Int.toNat_natCast]
  simp only [if_pos (show (0 : Int) ≤ l.length by omega), if_pos (show l.length ≤ 281474976710656 by omega)]
  rw [set_first]
  exact toByteS_l0 l h l.length 0 (by omega)

/-! ### eqByteS -/
theorem eqByteS_l0 (l : List Int) (h : l.length ≤ 140737488351232) (d : Nat) : ∀ i : Nat, i + d = l.length → Ev (fun k => laws_eqByteS.l0 k l l (i : Int)) true := by
  induction d with
  | zero =>
    intro i hi
    refine Ev.step1 fun k => ?_
    simp only [laws_eqByteS.l0]
    rw [if_neg (by omega)]
  | succ d ih =>
    intro i hi
    refine Ev.step (f := fun k => laws_eqByteS.l0 k l l ((i + 1 : Nat) : Int)) (fun k => ?_) (ih (i + 1) (by omega))
    simp only [laws_eqByteS.l0]
    rw [if_pos (by omega), if_pos (by omega), if_pos (by omega), if_pos trivial, wrS (by omega)]
theorem eqByteS_self (l : List Int) (h : l.length ≤ 140737488351232) : Ev (fun k => laws_eqByteS.f k l l) true := by
  unfold laws_eqByteS.f
  simp only [if_pos trivial]
  exact eqByteS_l0 l h l.length 0 (by omega)

/-! ### markByteS -/
theorem markByteS_l0 (l : List Int) (a : Int) (h : l.length ≤ 140737488351232) (h0 : 0 ≤ a) (h1 : a ≤ 4611686018427387904) (d : Nat) : ∀ i : Nat, i + d = l.length →
    Ev (fun k => laws_markByteS.l0 k (pat a i ++ l.drop i) (a + i) (i : Int)) (a + l.length, pat a l.length) := by
  induction d with
  | zero =>
    intro i hi
    refine Ev.step1 fun k => ?_
    simp only [laws_markByteS.l0]
    rw [if_neg (by rw [pat_drop_len _ _ (by omega)]; omega), List.drop_of_length_le (by omega), List.append_nil, show i = l.length by omega]
  | succ d ih =>
    intro i hi
    refine Ev.step (f := fun k => laws_markByteS.l0 k (pat a (i + 1) ++ l.drop (i + 1)) (a + ((i + 1 : Nat) : Int)) ((i + 1 : Nat) : Int)) (fun k => ?_) (ih (i + 1) (by omega))
    simp only [laws_markByteS.l0]
    rw [if_pos (by rw [pat_drop_len _ _ (by omega)]; omega), if_pos (by omega), Int.toNat_natCast, pat_set (by omega), wrS (by omega), wr (by omega) (by omega), show a + (i : Int) + 1 = a + ((i + 1 : Nat) : Int) by omega]
theorem markByteS_ev (l : List Int) (a : Int) (h : l.length ≤ 140737488351232) (h0 : 0 ≤ a) (h1 : a ≤ 4611686018427387904) :
    Ev (fun k => laws_markByteS.f k l a) (a + l.length, pat a l.length) := by
  unfold laws_markByteS.f
  have := markByteS_l0 l a h h0 h1 l.length 0 (by omega)
  simpa [pat] using this

/-! ### heldByteS -/
theorem heldByteS_l0 (n : Nat) (a : Int) (h : n ≤ 140737488351232) (h0 : 0 ≤ a) (h1 : a ≤ 4611686018427387904) (d : Nat) : ∀ i : Nat, i + d = n →
    Ev (fun k => laws_heldByteS.l0 k (pat a n) (a + i) (i : Int)) (a + n) := by
  induction d with
  | zero =>
    intro i hi
    refine Ev.step1 fun k => ?_
    simp only [laws_heldByteS.l0]
    rw [if_neg (by rw [pat_len]; omega), show i = n by omega]
  | succ d ih =>
    intro i hi
    refine Ev.step (f := fun k => laws_heldByteS.l0 k (pat a n) (a + ((i + 1 : Nat) : Int)) ((i + 1 : Nat) : Int)) (fun k => ?_) (ih (i + 1) (by omega))
    simp only [laws_heldByteS.l0]
    rw [if_pos (by rw [pat_len]; omega), if_pos (by omega), if_pos (rd_pat (by omega)), wrS (by omega), wr (by omega) (by omega), show a + (i : Int) + 1 = a + ((i + 1 : Nat) : Int) by omega]
theorem heldByteS_ev (n : Nat) (a : Int) (h : n ≤ 140737488351232) (h0 : 0 ≤ a) (h1 : a ≤ 4611686018427387904) : Ev (fun k => laws_heldByteS.f k (pat a n) a) (a + n) := by
  unfold laws_heldByteS.f
  have := heldByteS_l0 n a h h0 h1 n 0 (by omega)
  simpa using this

/-! ### law_FnExactTear -/
theorem FnExactTear (l0 : List Int) (g0 : G22 l0) (l1 : List Int) (g1 : G22 l1) (a2 : Int) (w2 : (Lit.int .i64 a2).wf = true) : ∃ k, laws_FnExactTear.f k l0 l1 a2 = some true := by
  refine Ev.rounds ?_
  unfold laws_FnExactTear.f
  by_cases c0 : (l0.length : Int) > 1048576
  · simp only [if_pos c0]; exact Ev.now _
  by_cases c1 : (l1.length : Int) > 1048576
  · simp only [if_neg c0, if_pos c1]; exact Ev.now _
  simp only [if_neg c0, if_neg c1]
  have t0 := toByteS_ev l0 (by omega)
  have t1 := toByteS_ev l1 (by omega)
  have q0 := eqByteS_self l0 (by omega)
  have q1 := eqByteS_self l1 (by omega)
  have hs := spec_Tear_ev l0 l1 a2 (by omega) (by omega)
  have hi := impl_Tear_eq l0 l1 a2
  have hp := tearL_len l0 l1 a2
  revert hs hi hp
  generalize tearL l0 l1 a2 = g
  intro hs hi hp
  have hq := eqByteS_self g (by omega)
  have m0 := markByteS_ev l0 1 (by omega) (by omega) (by omega)
  have m1 := markByteS_ev l1 (1 + l0.length) (by omega) (by omega) (by omega)
  have hm := markByteS_ev g 1 (by omega) (by omega) (by omega)
  have hd := heldByteS_ev g.length 1 (by omega) (by omega) (by omega)
  have hi' : Ev (fun k => impl_Tear.f l0 l1 a2) g := Ev.one hi
  refine Ev.bind t0 (Ev.bind t1 (Ev.bind hs (Ev.bind t0 (Ev.bind t1 (Ev.bind hi' (Ev.bind hq ?_))))))
  simp only [if_true]
  refine Ev.bind t0 (Ev.bind q0 ?_)
  simp only [if_true]
  refine Ev.bind t1 (Ev.bind q1 ?_)
  simp only [if_true]
  refine Ev.bind m0 (Ev.bind m1 ?_)
  simp only [if_neg (show ¬ ((1 : Int) + (l0.length : Int) + (l1.length : Int) < 0) by omega)]
  refine Ev.bind hq ?_
  refine Ev.step (f := fun k => _) (fun k => by simp only [laws_FnExactTear.j0]; rfl) ?_
  simp only [Bool.not_true, Bool.false_eq_true, if_false]
  refine Ev.bind hm (Ev.bind hd ?_)
  simp only [if_neg (show ¬ ((1 : Int) + (g.length : Int) < 0) by omega), if_true]
  refine Ev.bind t0 (Ev.bind t1 (Ev.bind hi' (Ev.bind hq ?_)))
  simp only [if_true]
  refine Ev.bind hd (Ev.one ?_)
  rw [if_neg (by omega), if_pos rfl]

end Go.Proofs.Ytdlbeiebhngodaa.Pure
