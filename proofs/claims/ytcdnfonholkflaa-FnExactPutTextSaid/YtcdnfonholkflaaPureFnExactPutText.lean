/- The pure statement of FnExactPutText: what the printed functions of this law compute answers true, for every argument within the bounds that the statement names. -/
import Derived.Test.YtcdnfonholkflaaPFnExactPutTextx2
import Derived.Test.YtcdnfonholkflaaLib
import Derived.Test.YtcdnfonholkflaaLibOrd
import Derived.Test.YtcdnfonholkflaaLibOpen
import Derived.Test.YtcdnfonholkflaaLibVar
namespace Go.Proofs.Ytcdnfonholkflaa.Pure
open Go Go.RowKit Go.Proofs.Ytcdnfonholkflaa.PFnExactPutText Go.Proofs.YtcdnfonholkflaaW.PrintWords Go.Proofs.YtcdnfonholkflaaW.PrintLast Go.Proofs.YtcdnfonholkflaaW.PrintMore Go.Proofs.Ytcdnfonholkflaa.Lib
set_option linter.unusedVariables false
set_option linter.unusedSimpArgs false

def G5 (x : Int) : Prop := (Lit.int .u8 x).wf = true
def G31 (xs : List (Int)) : Prop := xs.length * 1 ≤ 140737488351232 ∧ ∀ x ∈ xs, G5 x

/-! ### putTextD -/
def putText (b : List Int) (s : ByteArray) : List Int × Bool := if b.length + (enc s.size).length + s.size ≤ 4096 then (b ++ enc s.size ++ bytesOf s, true) else ([], false)
theorem putText_len (b : List Int) (s : ByteArray) : (putText b s).1.length ≤ 4096 := by
  unfold putText
  split
  · rename_i h; simp [len_bytesOf]; omega
  · simp

/-! ### l01Num -/
theorem l01Num_eq (n : Int) : spec_l01Num.f n = some (decide (0 ≤ n ∧ n ≤ 1099511627775)) := by
  unfold spec_l01Num.f
  by_cases h : n ≥ 0
  · rw [if_pos h]; simp [h]
  · rw [if_neg h]; simp; omega

/-! ### putVarD -/
def putVar (b : List Int) (n : Int) : List Int × Bool := if (0 ≤ n ∧ n ≤ 1099511627775) ∧ b.length + (enc n.toNat).length ≤ 4096 then (b ++ enc n.toNat, true) else ([], false)

/-! ### putVar -/
theorem spec_PutVar_l0 (m : Nat) : ∀ acc : List Int, acc.length + (enc m).length ≤ 140737488355000 → m ≤ 1099511627775 →
    Ev (fun k => spec_PutVar.l0 k (m : Int) acc) (if acc.length + (enc m).length ≤ 4096 then (acc ++ enc m, true) else ([], false)) := by
  induction m using Nat.strongRecOn with
  | _ m ih =>
    intro acc ha hm
    by_cases h : m < 128
    · refine Ev.step1 fun k => ?_
      simp only [spec_PutVar.l0]
      rw [enc_lt h] at ha ⊢
      simp at ha
      rw [if_neg (by omega), if_pos (by omega)]
      simp only [Option.bind_some]
      rw [show (m : Int) % 256 = m by omega]
      by_cases c : acc.length + [(m : Int)].length ≤ 4096
      · rw [if_pos c, if_neg (by simp at c ⊢; omega)]
      · rw [if_neg c, if_pos (by simp at c ⊢; omega)]
    · refine Ev.step (f := fun k => spec_PutVar.l0 k ((m / 128 : Nat) : Int) (acc ++ [((m % 128 + 128 : Nat) : Int)])) (fun k => ?_) ?_
      · simp only [spec_PutVar.l0]
        rw [enc_ge h] at ha
        simp at ha
        rw [if_pos (by omega), if_pos (by omega), show (128 : Int) = ((128 : Nat) : Int) from rfl, tdiv_nat, tmod_nat, wr (n := ((128 : Nat) : Int) + _) (by omega) (by omega), wr (by omega) (by omega), show (((128 : Nat) : Int) + ((m % 128 : Nat) : Int)) % 256 = ((m % 128 + 128 : Nat) : Int) by omega]
      · rw [enc_ge h] at ha ⊢
        simp at ha
        have := ih (m / 128) (by omega) (acc ++ [((m % 128 + 128 : Nat) : Int)]) (by simp; omega) (by omega)
        rw [List.append_assoc] at this
        rw [show acc.length + (((m % 128 + 128 : Nat) : Int) :: enc (m / 128)).length = (acc ++ [((m % 128 + 128 : Nat) : Int)]).length + (enc (m / 128)).length by simp; omega]
        exact this
theorem spec_PutVar_ev (b : List Int) (n : Int) (h : b.length ≤ 140737488351232) : Ev (fun k => spec_PutVar.f k b n) (putVar b n) := by
  unfold spec_PutVar.f putVar
  rw [l01Num_eq]
  simp only [Option.bind_some, decide_eq_true_eq, List.nil_append, List.length_nil]
  by_cases c : 0 ≤ n ∧ n ≤ 1099511627775
  · simp only [if_pos c, if_pos (show 0 + b.length < 140737488355328 by omega)]
    have he := enc_six (n := n.toNat) (by omega)
    have := spec_PutVar_l0 n.toNat b (by omega) (by omega)
    rw [Int.toNat_of_nonneg c.1] at this
    by_cases c2 : b.length + (enc n.toNat).length ≤ 4096
    · rw [if_pos c2] at this; rw [if_pos ⟨c, c2⟩]; exact this
    · rw [if_neg c2] at this; rw [if_neg (fun f => c2 f.2)]; exact this
  · simp only [if_neg c]; rw [if_neg (fun f => c f.1)]; exact Ev.now _

/-! ### specPutText -/
theorem spec_PutText_ev (b : List Int) (s : ByteArray) (h : b.length ≤ 140737488351232) (hs : s.size ≤ 140737488351232) : Ev (fun k => spec_PutText.f k b s) (putText b s) := by
  unfold spec_PutText.f
  refine Ev.bind (spec_PutVar_ev b (s.size : Int) h) ?_
  unfold putVar putText
  rw [Int.toNat_natCast]
  by_cases c : (0 ≤ (s.size : Int) ∧ (s.size : Int) ≤ 1099511627775) ∧ b.length + (enc s.size).length ≤ 4096
  · simp only [if_pos c, if_true]
    simp only [wr (n := (4096 : Int) - ((b ++ enc s.size).length : Int)) (by rw [List.length_append]; omega) (by omega)]
    by_cases c2 : (s.size : Int) > 4096 - ((b ++ enc s.size).length : Int)
    · simp only [if_pos c2]
      rw [if_neg (by rw [List.length_append] at c2; omega)]
      exact Ev.now _
    · simp only [if_neg c2]
      have c3 := c2
      rw [List.length_append] at c3
      refine Ev.one ?_
      rw [if_pos (by omega)]
      simp only [Option.bind_some]
      rw [if_pos (by rw [List.length_append, len_bytesOf]; omega), if_pos (by omega)]
  · simp only [if_neg c, Bool.false_eq_true, if_false]
    rw [if_neg (by omega)]
    exact Ev.now _

/-! ### vary -/
theorem vary_l0 (m : Nat) : ∀ acc : List Int, acc.length + (enc m).length ≤ 140737488355000 → m ≤ 9223372036854775807 → Ev (fun k => impl_vary.l0 k acc (m : Int)) (acc ++ enc m) := by
  induction m using Nat.strongRecOn with
  | _ m ih =>
    intro acc ha hm
    by_cases h : m < 128
    · refine Ev.step1 fun k => ?_
      simp only [impl_vary.l0]
      rw [enc_lt h] at ha ⊢
      simp at ha
      rw [if_neg (by omega), if_pos (by omega), show (m : Int) % 256 = m by omega]
    · rw [enc_ge h] at ha ⊢
      simp at ha
      refine Ev.step (f := fun k => impl_vary.l0 k (acc ++ [((m % 128 + 128 : Nat) : Int)]) ((m / 128 : Nat) : Int)) (fun k => ?_) ?_
      · simp only [impl_vary.l0]
        rw [if_pos (by omega), if_pos (by omega), show (128 : Int) = ((128 : Nat) : Int) from rfl, tdiv_nat, tmod_nat, wr (n := ((m % 128 : Nat) : Int) + _) (by omega) (by omega), wr (by omega) (by omega), show (((m % 128 : Nat) : Int) + ((128 : Nat) : Int)) % 256 = ((m % 128 + 128 : Nat) : Int) by omega]
      · have := ih (m / 128) (by omega) (acc ++ [((m % 128 + 128 : Nat) : Int)]) (by simp; omega) (by omega)
        rw [List.append_assoc] at this
        exact this
theorem vary_ev (b : List Int) (n : Nat) (h : b.length + (enc n).length ≤ 140737488355000) (h2 : n ≤ 9223372036854775807) : Ev (fun k => impl_vary.f k b (n : Int)) (b ++ enc n) := vary_l0 n b h h2

/-! ### implPutText -/
theorem impl_PutText_ev (b : List Int) (s : ByteArray) : Ev (fun k => impl_PutText.f k b s) (putText b s) := by
  unfold impl_PutText.f putText
  have no : Ev (fun k => impl_PutText.j0 k b s true) (([] : List Int), false) := Ev.step1 fun k => by simp only [impl_PutText.j0]; rfl
  by_cases c1 : (b.length : Int) > 4096
  · simp only [if_pos c1]; rw [if_neg (by omega)]; exact no
  simp only [if_neg c1]
  by_cases c2 : (s.size : Int) > 4096
  · rw [decide_eq_true c2, if_neg (by omega)]; exact no
  rw [decide_eq_false c2]
  have he := enc_six (n := s.size) (by omega)
  refine Ev.step (f := fun k => _) (fun k => by simp only [impl_PutText.j0]; rfl) ?_
  simp only [Bool.false_eq_true, if_false, Option.bind_some, List.nil_append, List.length_nil, Nat.zero_add]
  simp only [if_pos (show b.length < 140737488355328 by omega)]
  refine Ev.bind (vary_ev b s.size (by omega) (by omega)) (Ev.one ?_)
  rw [if_pos (by rw [List.length_append]; omega)]
  have hl : (b ++ enc s.size ++ bytesOf s).length = b.length + (enc s.size).length + s.size := by rw [List.length_append, List.length_append, len_bytesOf]
  by_cases c3 : b.length + (enc s.size).length + s.size ≤ 4096
  · rw [if_pos c3, if_neg (by rw [hl]; omega)]
  · rw [if_neg c3, if_pos (by rw [hl]; omega)]

/-! ### toByteS -/
theorem toByteS_l0 (l : List Int) (h : l.length ≤ 140737488351232) (d : Nat) : ∀ i : Nat, i + d = l.length →
    Ev (fun k => laws_toByteS.l0 k l (l.take i ++ List.replicate (l.length - i) 0) (i : Int)) l := by
  induction d with
  | zero =>
    intro i hi
    refine Ev.step1 fun k => ?_
    simp only [laws_toByteS.l0]
    rw [if_neg (by omega), set_last l 0 (by omega)]
  | succ d ih =>
    intro i hi
    refine Ev.step (f := fun k => laws_toByteS.l0 k l (l.take (i + 1) ++ List.replicate (l.length - (i + 1)) 0) ((i + 1 : Nat) : Int)) (fun k => ?_) (ih (i + 1) (by omega))
    simp only [laws_toByteS.l0]
    rw [if_pos (by omega), if_pos (by omega), if_pos (by rw [len_mid _ _ (by omega)]; omega), Int.toNat_natCast, wrS (by omega), set_next l 0 _ i (by omega) (rd_nat (by omega))]
theorem toByteS_ev (l : List Int) (h : l.length ≤ 140737488351232) : Ev (fun k => laws_toByteS.f k l) l := by
  unfold laws_toByteS.f
  rw [Int.toNat_natCast]
  simp only [if_pos (show (0 : Int) ≤ l.length by omega), if_pos (show l.length ≤ 281474976710656 by omega)]
  rw [set_first]
  exact toByteS_l0 l h l.length 0 (by omega)

/-! ### eqByteS -/
theorem eqByteS_l0 (l : List Int) (h : l.length ≤ 140737488351232) (d : Nat) : ∀ i : Nat, i + d = l.length → Ev (fun k => laws_eqByteS.l0 k l l (i : Int)) true := by
  induction d with
  | zero =>
    intro i hi
    refine Ev.step1 fun k => ?_
    simp only [laws_eqByteS.l0]
    rw [if_neg (by omega)]
  | succ d ih =>
    intro i hi
    refine Ev.step (f := fun k => laws_eqByteS.l0 k l l ((i + 1 : Nat) : Int)) (fun k => ?_) (ih (i + 1) (by omega))
    simp only [laws_eqByteS.l0]
    rw [if_pos (by omega), if_pos (by omega), if_pos (by omega), if_pos trivial, wrS (by omega)]
theorem eqByteS_self (l : List Int) (h : l.length ≤ 140737488351232) : Ev (fun k => laws_eqByteS.f k l l) true := by
  unfold laws_eqByteS.f
  simp only [if_pos trivial]
  exact eqByteS_l0 l h l.length 0 (by omega)

/-! ### markByteS -/
theorem markByteS_l0 (l : List Int) (a : Int) (h : l.length ≤ 140737488351232) (h0 : 0 ≤ a) (h1 : a ≤ 4611686018427387904) (d : Nat) : ∀ i : Nat, i + d = l.length →
    Ev (fun k => laws_markByteS.l0 k (pat a i ++ l.drop i) (a + i) (i : Int)) (a + l.length, pat a l.length) := by
  induction d with
  | zero =>
    intro i hi
    refine Ev.step1 fun k => ?_
    simp only [laws_markByteS.l0]
    rw [if_neg (by rw [pat_drop_len _ _ (by omega)]; omega), List.drop_of_length_le (by omega), List.append_nil, show i = l.length by omega]
  | succ d ih =>
    intro i hi
    refine Ev.step (f := fun k => laws_markByteS.l0 k (pat a (i + 1) ++ l.drop (i + 1)) (a + ((i + 1 : Nat) : Int)) ((i + 1 : Nat) : Int)) (fun k => ?_) (ih (i + 1) (by omega))
    simp only [laws_markByteS.l0]
    rw [if_pos (by rw [pat_drop_len _ _ (by omega)]; omega), if_pos (by omega), Int.toNat_natCast, pat_set (by omega), wrS (by omega), wr (by omega) (by omega), show a + (i : Int) + 1 = a + ((i + 1 : Nat) : Int) by omega]
theorem markByteS_ev (l : List Int) (a : Int) (h : l.length ≤ 140737488351232) (h0 : 0 ≤ a) (h1 : a ≤ 4611686018427387904) :
    Ev (fun k => laws_markByteS.f k l a) (a + l.length, pat a l.length) := by
  unfold laws_markByteS.f
  have := markByteS_l0 l a h h0 h1 l.length 0 (by omega)
  simpa [pat] using this

/-! ### heldByteS -/
theorem heldByteS_l0 (n : Nat) (a : Int) (h : n ≤ 140737488351232) (h0 : 0 ≤ a) (h1 : a ≤ 4611686018427387904) (d : Nat) : ∀ i : Nat, i + d = n →
    Ev (fun k => laws_heldByteS.l0 k (pat a n) (a + i) (i : Int)) (a + n) := by
  induction d with
  | zero =>
    intro i hi
    refine Ev.step1 fun k => ?_
    simp only [laws_heldByteS.l0]
    rw [if_neg (by rw [pat_len]; omega), show i = n by omega]
  | succ d ih =>
    intro i hi
    refine Ev.step (f := fun k => laws_heldByteS.l0 k (pat a n) (a + ((i + 1 : Nat) : Int)) ((i + 1 : Nat) : Int)) (fun k => ?_) (ih (i + 1) (by omega))
    simp only [laws_heldByteS.l0]
    rw [if_pos (by rw [pat_len]; omega), if_pos (by omega), if_pos (rd_pat (by omega)), wrS (by omega), wr (by omega) (by omega), show a + (i : Int) + 1 = a + ((i + 1 : Nat) : Int) by omega]
theorem heldByteS_ev (n : Nat) (a : Int) (h : n ≤ 140737488351232) (h0 : 0 ≤ a) (h1 : a ≤ 4611686018427387904) : Ev (fun k => laws_heldByteS.f k (pat a n) a) (a + n) := by
  unfold laws_heldByteS.f
  have := heldByteS_l0 n a h h0 h1 n 0 (by omega)
  simpa using this

/-! ### law_FnExactPutText -/
theorem FnExactPutText (l0 : List (Int)) (g0 : G31 l0) (a1 : ByteArray) (w1 : a1.size ≤ 140737488351232) : ∃ k, laws_FnExactPutText.f k l0 a1 = some true := by
  have hl : l0.length ≤ 140737488351232 := by have := g0.1; omega
  have hp := putText_len l0 a1
  obtain ⟨g, ok⟩ : ∃ g, g = putText l0 a1 := ⟨_, rfl⟩
  have ht := toByteS_ev l0 hl
  have hs := spec_PutText_ev l0 a1 hl w1
  have hi := impl_PutText_ev l0 a1
  rw [← ok] at hs hi hp
  have hq := eqByteS_self g.1 (by omega)
  have hm := markByteS_ev g.1 1 (by omega) (by omega) (by omega)
  have hd := heldByteS_ev g.1.length 1 (by omega) (by omega) (by omega)
  have hx := markByteS_ev l0 1 (by omega) (by omega) (by omega)
  refine Ev.rounds ?_
  unfold laws_FnExactPutText.f
  by_cases c : (l0.length : Int) > 1048576
  · simp only [if_pos c]; exact Ev.now _
  · simp only [if_neg c]
    by_cases cs : (a1.size : Int) > 1048576
    · simp only [if_pos cs]; exact Ev.now _
    simp only [if_neg cs]
    refine Ev.bind ht (Ev.bind hs (Ev.bind ht (Ev.bind hi (Ev.bind hq ?_))))
    simp only [if_true, bne_self_eq_false]
    refine Ev.step (f := fun k => _) (fun k => by simp only [laws_FnExactPutText.j0]; rfl) ?_
    simp only [Bool.false_eq_true, if_false]
    refine Ev.bind ht (Ev.bind (eqByteS_self l0 hl) ?_)
    simp only [if_true]
    refine Ev.bind hx ?_
    simp only [if_neg (show ¬ ((1 : Int) + (l0.length : Int) < 0) by omega)]
    refine Ev.bind hq ?_
    simp only [if_true, bne_self_eq_false]
    refine Ev.step (f := fun k => _) (fun k => by simp only [laws_FnExactPutText.j1]; rfl) ?_
    simp only [Bool.false_eq_true, if_false]
    refine Ev.bind hm (Ev.bind hd ?_)
    simp only [if_neg (show ¬ ((1 : Int) + (g.1.length : Int) < 0) by omega), if_true]
    refine Ev.bind ht (Ev.bind hi (Ev.bind hq ?_))
    simp only [if_true, bne_self_eq_false]
    refine Ev.step (f := fun k => _) (fun k => by simp only [laws_FnExactPutText.j2]; rfl) ?_
    simp only [Bool.false_eq_true, if_false]
    refine Ev.bind hd (Ev.one ?_)
    rw [if_neg (by omega), if_pos rfl]

end Go.Proofs.Ytcdnfonholkflaa.Pure
