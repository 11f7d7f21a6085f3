/- The pure statement of FnExactGetText: what the printed functions of this law compute answers true, for every argument within the bounds that the statement names. -/
import Derived.Test.YtcdnfonholkflaaPFnExactGetTextx2
import Derived.Test.YtcdnfonholkflaaLib
import Derived.Test.YtcdnfonholkflaaLibOrd
import Derived.Test.YtcdnfonholkflaaLibOpen
import Derived.Test.YtcdnfonholkflaaLibVar
namespace Go.Proofs.Ytcdnfonholkflaa.Pure
open Go Go.RowKit Go.Proofs.Ytcdnfonholkflaa.PFnExactGetText Go.Proofs.YtcdnfonholkflaaW.PrintWords Go.Proofs.YtcdnfonholkflaaW.PrintLast Go.Proofs.YtcdnfonholkflaaW.PrintMore Go.Proofs.Ytcdnfonholkflaa.Lib
set_option linter.unusedVariables false
set_option linter.unusedSimpArgs false

def G5 (x : Int) : Prop := (Lit.int .u8 x).wf = true
def G31 (xs : List (Int)) : Prop := xs.length * 1 ≤ 140737488351232 ∧ ∀ x ∈ xs, G5 x

/-! ### l01Num -/
theorem l01Num_eq (n : Int) : spec_l01Num.f n = some (decide (0 ≤ n ∧ n ≤ 1099511627775)) := by
  unfold spec_l01Num.f
  by_cases h : n ≥ 0
  · rw [if_pos h]; simp [h]
  · rw [if_neg h]; simp; omega

/-! ### putVar -/
def putVar (b : List Int) (n : Int) : List Int × Bool := if (0 ≤ n ∧ n ≤ 1099511627775) ∧ b.length + (enc n.toNat).length ≤ 4096 then (b ++ enc n.toNat, true) else ([], false)
theorem spec_PutVar_l0 (m : Nat) : ∀ acc : List Int, acc.length + (enc m).length ≤ 140737488355000 → m ≤ 1099511627775 →
    Ev (fun k => spec_PutVar.l0 k (m : Int) acc) (if acc.length + (enc m).length ≤ 4096 then (acc ++ enc m, true) else ([], false)) := by
  induction m using Nat.strongRecOn with
  | _ m ih =>
    intro acc ha hm
    by_cases h : m < 128
    · refine Ev.step1 fun k => ?_
      simp only [spec_PutVar.l0]
      rw [enc_lt h] at ha ⊢
      simp at ha
      rw [if_neg (by omega), if_pos (by omega)]
      simp only [Option.bind_some]
      rw [show (m : Int) % 256 = m by omega]
      by_cases c : acc.length + [(m : Int)].length ≤ 4096
      · rw [if_pos c, if_neg (by simp at c ⊢; omega)]
      · rw [if_neg c, if_pos (by simp at c ⊢; omega)]
    · refine Ev.step (f := fun k => spec_PutVar.l0 k ((m / 128 : Nat) : Int) (acc ++ [((m % 128 + 128 : Nat) : Int)])) (fun k => ?_) ?_
      · simp only [spec_PutVar.l0]
        rw [enc_ge h] at ha
        simp at ha
        rw [if_pos (by omega), if_pos (by omega), show (128 : Int) = ((128 : Nat) : Int) from rfl, tdiv_nat, tmod_nat, wr (n := ((128 : Nat) : Int) + _) (by omega) (by omega), wr (by omega) (by omega), show (((128 : Nat) : Int) + ((m % 128 : Nat) : Int)) % 256 = ((m % 128 + 128 : Nat) : Int) by omega]
      · rw [enc_ge h] at ha ⊢
        simp at ha
        have := ih (m / 128) (by omega) (acc ++ [((m % 128 + 128 : Nat) : Int)]) (by simp; omega) (by omega)
        rw [List.append_assoc] at this
        rw [show acc.length + (((m % 128 + 128 : Nat) : Int) :: enc (m / 128)).length = (acc ++ [((m % 128 + 128 : Nat) : Int)]).length + (enc (m / 128)).length by simp; omega]
        exact this
theorem spec_PutVar_ev (b : List Int) (n : Int) (h : b.length ≤ 140737488351232) : Ev (fun k => spec_PutVar.f k b n) (putVar b n) := by
  unfold spec_PutVar.f putVar
  rw [l01Num_eq]
  simp only [Option.bind_some, decide_eq_true_eq, List.nil_append, List.length_nil]
  by_cases c : 0 ≤ n ∧ n ≤ 1099511627775
  · simp only [if_pos c, if_pos (show 0 + b.length < 140737488355328 by omega)]
    have he := enc_six (n := n.toNat) (by omega)
    have := spec_PutVar_l0 n.toNat b (by omega) (by omega)
    rw [Int.toNat_of_nonneg c.1] at this
    by_cases c2 : b.length + (enc n.toNat).length ≤ 4096
    · rw [if_pos c2] at this; rw [if_pos ⟨c, c2⟩]; exact this
    · rw [if_neg c2] at this; rw [if_neg (fun f => c2 f.2)]; exact this
  · simp only [if_neg c]; rw [if_neg (fun f => c f.1)]; exact Ev.now _

/-! ### specGetVar -/
theorem putVar_nil {m : Nat} : putVar [] (m : Int) = if m ≤ 1099511627775 then (enc m, true) else ([], false) := by
  unfold putVar
  by_cases h : m ≤ 1099511627775
  · have := enc_six h
    rw [if_pos h, Int.toNat_natCast, if_pos ⟨by omega, by simp; omega⟩]
    rfl
  · rw [if_neg h, if_neg (fun f => by have := f.1; omega)]
theorem spec_gv (b : List Int) (hb : Byt b) (hl : b.length ≤ 140737488351232) (a : Nat) (ha : a < b.length) (d : Nat) : ∀ j n u : Nat, j + d = 6 → u = 128 ^ j → n < u →
    Ev (fun k => spec_GetVar.l0 k b (a : Int) (n : Int) (u : Int) ((a + j : Nat) : Int)) (gvRes a (gv (b.drop (a + j)) j n u)) := by
  induction d with
  | zero =>
    intro j n u hj hu hn
    clear hu
    have e : gv (b.drop (a + j)) j n u = none := by
      cases b.drop (a + j) with
      | nil => rfl
      | cons x r => unfold gv; rw [if_pos (by omega)]
    rw [e]
    refine Ev.step (f := fun k => spec_GetVar.j2 k b (a : Int) (n : Int) (u : Int) ((a + j : Nat) : Int) false) (fun k => ?_) (Ev.step1 fun k => by simp only [spec_GetVar.j2]; rfl)
    simp only [spec_GetVar.l0]
    by_cases c : ((a + j : Nat) : Int) < (b.length : Int)
    · rw [if_pos c, decide_eq_false (by rw [wr (by omega) (by omega)]; omega)]
    · rw [if_neg c]
  | succ d ih =>
    intro j n u hj hu hn
    have hj6 : j ≤ 6 := by clear hu; omega
    have hjd : j + 1 + d = 6 := by clear hu; omega
    have hp := pow128 hj6
    rw [← hu] at hp
    have hu2 : u * 128 = 128 ^ (j + 1) := by rw [Nat.pow_succ, hu]
    have ihx := fun n' => ih (j + 1) n' (u * 128) hjd hu2
    have hen : ∀ c q, c < 128 → c * u = q → ((enc (n + q)).length = j + 1 ↔ ¬ (c = 0 ∧ 0 < j)) := by
      intro c q hc hq
      have := enc_len_iff (n := n) (b := c) (j := j) (by rw [← hu]; exact hn) hc
      rw [← hu, hq] at this
      exact this
    clear hu hu2 ih
    by_cases c : ((a + j : Nat) : Int) < (b.length : Int)
    · refine Ev.step (f := fun k => spec_GetVar.j2 k b (a : Int) (n : Int) (u : Int) ((a + j : Nat) : Int) true) (fun k => ?_) ?_
      · simp only [spec_GetVar.l0]
        rw [if_pos c, decide_eq_true (by rw [wr (by omega) (by omega)]; omega)]
      · obtain ⟨x, hx⟩ : ∃ x : Nat, rd b ((a + j : Nat) : Int) = (x : Int) := ⟨(rd b ((a + j : Nat) : Int)).toNat, by have := rd_byt hb ((a + j : Nat) : Int); omega⟩
        have hx2 : x < 256 := by have := rd_byt hb ((a + j : Nat) : Int); omega
        obtain ⟨q, hq⟩ : ∃ q, x % 128 * u = q := ⟨_, rfl⟩
        have hq1 : q ≤ 127 * u := by rw [← hq]; exact Nat.mul_le_mul_right _ (by omega)
        have et : ((x : Int) % 128).toNat = x % 128 := by omega
        have em : Hide (wrap64 ((n : Int) + wrap64 (Int.tmod (wrap64 (x : Int)) 128 * (u : Int))) = ((n + q : Nat) : Int)) := by
          refine ⟨?_⟩
          rw [wr (n := (x : Int)) (by omega) (by omega), show (128 : Int) = ((128 : Nat) : Int) from rfl, tmod_nat, ← Int.natCast_mul, hq, wr (n := (q : Int)) (by omega) (by omega), wr (by omega) (by omega)]
          rfl
        rw [drop_rd (by omega), Nat.add_assoc a j 1, hx]
        unfold gv
        rw [if_neg (by omega), et, hq]
        have el := hen (x % 128) q (by omega) hq
        clear hq
        by_cases h : (128 : Int) ≤ (x : Int)
        · rw [if_pos h]
          refine Ev.step (f := fun k => spec_GetVar.l0 k b (a : Int) ((n + q : Nat) : Int) ((u * 128 : Nat) : Int) ((a + (j + 1) : Nat) : Int)) (fun k => ?_) ?_
          · simp only [spec_GetVar.j2]
            rw [if_pos trivial, if_pos (by omega), if_pos c, hx, em.out, if_pos h, wrS (by omega), Nat.add_assoc, wr (n := (u : Int) * 128) (by omega) (by omega)]
            rfl
          · exact ihx (n + q) (by omega)
        · rw [if_neg h]
          refine Ev.step (f := fun k => (spec_PutVar.f k ([] : List Int) ((n + q : Nat) : Int)).bind fun t => if t.2 = true then (if (t.1.length : Int) = ((j + 1 : Nat) : Int) then some (((n + q : Nat) : Int), ((a + (j + 1) : Nat) : Int)) else some (0, -1)) else some (0, -1)) (fun k => ?_) (Ev.bind (spec_PutVar_ev _ _ (by simp)) (Ev.one ?_))
          · simp only [spec_GetVar.j2]
            rw [if_pos trivial, if_pos (by omega), if_pos c, hx, em.out, if_neg h, wrS (by omega), Nat.add_assoc, wr (n := ((a + (j + 1) : Nat) : Int) - (a : Int)) (by omega) (by omega), show ((a + (j + 1) : Nat) : Int) - (a : Int) = ((j + 1 : Nat) : Int) by omega]
          · clear em
            rw [putVar_nil]
            by_cases h2 : n + q ≤ 1099511627775
            · rw [if_pos h2]
              by_cases h3 : x % 128 = 0 ∧ 0 < j
              · rw [if_pos rfl, if_neg (fun e => (el.1 (by simpa using Int.natCast_inj.1 e)) h3), if_pos (.inr ⟨by omega, h3.2⟩)]; rfl
              · rw [if_pos rfl, if_pos (by rw [el.2 h3]), if_neg (fun f => f.elim (fun f => Nat.lt_irrefl _ (Nat.lt_of_lt_of_le f h2)) (fun f => h3 ⟨by omega, f.2⟩))]; rfl
            · rw [if_neg h2, if_neg (by decide), if_pos (.inl (Nat.lt_of_not_le h2))]; rfl
    · rw [List.drop_of_length_le (by omega)]
      refine Ev.step (f := fun k => spec_GetVar.j2 k b (a : Int) (n : Int) (u : Int) ((a + j : Nat) : Int) false) (fun k => ?_) (Ev.step1 fun k => by simp only [spec_GetVar.j2]; rfl)
      simp only [spec_GetVar.l0]
      rw [if_neg c]
theorem spec_GetVar_ev (b : List Int) (a : Int) (hb : Byt b) (hl : b.length ≤ 140737488351232) : Ev (fun k => spec_GetVar.f k b a) (getVar b a) := by
  unfold spec_GetVar.f
  by_cases c : a < 0
  · rw [getVar_out (.inl c)]; simp only [if_pos c]
    exact Ev.step1 fun k => by simp only [spec_GetVar.j0]; rfl
  · simp only [if_neg c]
    by_cases c2 : a ≥ (b.length : Int)
    · rw [getVar_out (.inr c2)]
      exact Ev.step1 fun k => by simp only [spec_GetVar.j0]; rw [if_pos (decide_eq_true c2)]
    · refine Ev.step (f := fun k => spec_GetVar.l0 k b a 0 1 a) (fun k => by simp only [spec_GetVar.j0]; rw [if_neg (fun e => c2 (of_decide_eq_true e))]) ?_
      unfold getVar
      rw [if_neg c]
      have := spec_gv b hb hl a.toNat (by omega) 6 0 0 1 (by omega) (by decide) (by decide)
      rw [Nat.add_zero, Int.toNat_of_nonneg (by omega)] at this
      exact this

/-! ### specGetText -/
theorem spec_GetText_ev (b : List Int) (a : Int) (hb : Byt b) (hl : b.length ≤ 140737488351232) : Ev (fun k => spec_GetText.f k b a) (getText b a) := by
  unfold spec_GetText.f
  exact Ev.bind (spec_GetVar_ev b a hb hl) (Ev.one (getText_core b hl a _ rfl))

/-! ### implGetVar -/
theorem impl_gv (b : List Int) (hb : Byt b) (hl : b.length ≤ 140737488351232) (a : Nat) (ha : a < b.length) (d : Nat) : ∀ j n u : Nat, j + d = 6 → u = 128 ^ j → n < u →
    Ev (fun k => impl_GetVar.l0 k b (a : Int) (n : Int) (u : Int) ((a + j : Nat) : Int)) (gvRes a (gv (b.drop (a + j)) j n u)) := by
  induction d with
  | zero =>
    intro j n u hj hu hn
    clear hu
    have e : gv (b.drop (a + j)) j n u = none := by
      cases b.drop (a + j) with
      | nil => rfl
      | cons x r => unfold gv; rw [if_pos (by omega)]
    rw [e]
    refine Ev.step (f := fun k => impl_GetVar.j1 k b (a : Int) (n : Int) (u : Int) ((a + j : Nat) : Int) false) (fun k => ?_) (Ev.step1 fun k => by simp only [impl_GetVar.j1]; rfl)
    simp only [impl_GetVar.l0]
    by_cases c : ((a + j : Nat) : Int) < (b.length : Int)
    · rw [if_pos c, decide_eq_false (by rw [wr (by omega) (by omega)]; omega)]
    · rw [if_neg c]
  | succ d ih =>
    intro j n u hj hu hn
    have hj6 : j ≤ 6 := by clear hu; omega
    have hjd : j + 1 + d = 6 := by clear hu; omega
    have hp := pow128 hj6
    rw [← hu] at hp
    have hu2 : u * 128 = 128 ^ (j + 1) := by rw [Nat.pow_succ, hu]
    have ihx := fun n' => ih (j + 1) n' (u * 128) hjd hu2
    clear hu hu2 ih
    by_cases c : ((a + j : Nat) : Int) < (b.length : Int)
    · refine Ev.step (f := fun k => impl_GetVar.j1 k b (a : Int) (n : Int) (u : Int) ((a + j : Nat) : Int) true) (fun k => ?_) ?_
      · simp only [impl_GetVar.l0]
        rw [if_pos c, decide_eq_true (by rw [wr (by omega) (by omega)]; omega)]
      · obtain ⟨x, hx⟩ : ∃ x : Nat, rd b ((a + j : Nat) : Int) = (x : Int) := ⟨(rd b ((a + j : Nat) : Int)).toNat, by have := rd_byt hb ((a + j : Nat) : Int); omega⟩
        have hx2 : x < 256 := by have := rd_byt hb ((a + j : Nat) : Int); omega
        obtain ⟨q, hq⟩ : ∃ q, x % 128 * u = q := ⟨_, rfl⟩
        have hq1 : q ≤ 127 * u := by rw [← hq]; exact Nat.mul_le_mul_right _ (by omega)
        have et : ((x : Int) % 128).toNat = x % 128 := by omega
        have em : Hide (wrap64 ((n : Int) + wrap64 (Int.tmod (wrap64 (x : Int)) 128 * (u : Int))) = ((n + q : Nat) : Int)) := by
          refine ⟨?_⟩
          rw [wr (n := (x : Int)) (by omega) (by omega), show (128 : Int) = ((128 : Nat) : Int) from rfl, tmod_nat, ← Int.natCast_mul, hq, wr (n := (q : Int)) (by omega) (by omega), wr (by omega) (by omega)]
          rfl
        rw [drop_rd (by omega), Nat.add_assoc a j 1, hx]
        unfold gv
        rw [if_neg (by omega), et, hq]
        clear hq
        by_cases h : (128 : Int) ≤ (x : Int)
        · rw [if_pos h]
          refine Ev.step (f := fun k => impl_GetVar.l0 k b (a : Int) ((n + q : Nat) : Int) ((u * 128 : Nat) : Int) ((a + (j + 1) : Nat) : Int)) (fun k => ?_) ?_
          · simp only [impl_GetVar.j1]
            rw [if_pos trivial, if_pos (by omega), if_pos c, hx, em.out, wr (n := (x : Int)) (by omega) (by omega), if_pos h, wrS (by omega), Nat.add_assoc, wr (n := (u : Int) * 128) (by omega) (by omega)]
            rfl
          · exact ihx (n + q) (by omega)
        · rw [if_neg h]
          refine Ev.step1 fun k => ?_
          simp only [impl_GetVar.j1]
          rw [if_pos trivial, if_pos (by omega), if_pos c, hx, em.out, wr (n := (x : Int)) (by omega) (by omega), if_neg h]
          clear em
          by_cases h2 : n + q ≤ 1099511627775
          · rw [if_neg (by omega)]
            have h2' : ¬ 1099511627775 < n + q := Nat.not_lt.2 h2
            by_cases h3 : (x : Int) = 0
            · rw [if_pos h3]
              by_cases h4 : 0 < j
              · rw [if_pos (by omega), if_pos (.inr ⟨h3, h4⟩)]; rfl
              · rw [if_neg (by omega), if_neg (fun f => f.elim h2' (fun f => h4 f.2)), wrS (by omega)]; rfl
            · rw [if_neg h3, if_neg (fun f => f.elim h2' (fun f => h3 f.1)), wrS (by omega)]; rfl
          · rw [if_pos (by omega), if_pos (.inl (Nat.lt_of_not_le h2))]; rfl
    · rw [List.drop_of_length_le (by omega)]
      refine Ev.step (f := fun k => impl_GetVar.j1 k b (a : Int) (n : Int) (u : Int) ((a + j : Nat) : Int) false) (fun k => ?_) (Ev.step1 fun k => by simp only [impl_GetVar.j1]; rfl)
      simp only [impl_GetVar.l0]
      rw [if_neg c]
theorem impl_GetVar_ev (b : List Int) (a : Int) (hb : Byt b) (hl : b.length ≤ 140737488351232) : Ev (fun k => impl_GetVar.f k b a) (getVar b a) := by
  unfold impl_GetVar.f
  by_cases c : a < 0
  · rw [getVar_out (.inl c)]; simp only [if_pos c]; exact Ev.now _
  · simp only [if_neg c]
    by_cases c2 : (b.length : Int) ≤ a
    · rw [getVar_out (.inr c2)]
      refine Ev.step (f := fun k => impl_GetVar.j1 k b a 0 1 a false) (fun k => ?_) (Ev.step1 fun k => by simp only [impl_GetVar.j1]; rfl)
      simp only [impl_GetVar.l0]
      rw [if_neg (by omega)]
    · unfold getVar
      rw [if_neg c]
      have := impl_gv b hb hl a.toNat (by omega) 6 0 0 1 (by omega) (by decide) (by decide)
      rw [Nat.add_zero, Int.toNat_of_nonneg (by omega)] at this
      exact this

/-! ### implGetText -/
theorem impl_GetText_ev (b : List Int) (a : Int) (hb : Byt b) (hl : b.length ≤ 140737488351232) : Ev (fun k => impl_GetText.f k b a) (getText b a) := by
  unfold impl_GetText.f
  exact Ev.bind (impl_GetVar_ev b a hb hl) (Ev.one (getText_core b hl a _ rfl))

/-! ### toByteS -/
theorem toByteS_l0 (l : List Int) (h : l.length ≤ 140737488351232) (d : Nat) : ∀ i : Nat, i + d = l.length →
    Ev (fun k => laws_toByteS.l0 k l (l.take i ++ List.replicate (l.length - i) 0) (i : Int)) l := by
  induction d with
  | zero =>
    intro i hi
    refine Ev.step1 fun k => ?_
    simp only [laws_toByteS.l0]
    rw [if_neg (by omega), set_last l 0 (by omega)]
  | succ d ih =>
    intro i hi
    refine Ev.step (f := fun k => laws_toByteS.l0 k l (l.take (i + 1) ++ List.replicate (l.length - (i + 1)) 0) ((i + 1 : Nat) : Int)) (fun k => ?_) (ih (i + 1) (by omega))
    simp only [laws_toByteS.l0]
    rw [if_pos (by omega), if_pos (by omega), if_pos (by rw [len_mid _ _ (by omega)]; omega), Int.toNat_natCast, wrS (by omega), set_next l 0 _ i (by omega) (rd_nat (by omega))]
theorem toByteS_ev (l : List Int) (h : l.length ≤ 140737488351232) : Ev (fun k => laws_toByteS.f k l) l := by
  unfold laws_toByteS.f
  rw [Int.toNat_natCast]
  simp only [if_pos (show (0 : Int) ≤ l.length by omega), if_pos (show l.length ≤ 281474976710656 by omega)]
  rw [set_first]
  exact toByteS_l0 l h l.length 0 (by omega)

/-! ### eqByteS -/
theorem eqByteS_l0 (l : List Int) (h : l.length ≤ 140737488351232) (d : Nat) : ∀ i : Nat, i + d = l.length → Ev (fun k => laws_eqByteS.l0 k l l (i : Int)) true := by
  induction d with
  | zero =>
    intro i hi
    refine Ev.step1 fun k => ?_
    simp only [laws_eqByteS.l0]
    rw [if_neg (by omega)]
  | succ d ih =>
    intro i hi
    refine Ev.step (f := fun k => laws_eqByteS.l0 k l l ((i + 1 : Nat) : Int)) (fun k => ?_) (ih (i + 1) (by omega))
    simp only [laws_eqByteS.l0]
    rw [if_pos (by omega), if_pos (by omega), if_pos (by omega), if_pos trivial, wrS (by omega)]
theorem eqByteS_self (l : List Int) (h : l.length ≤ 140737488351232) : Ev (fun k => laws_eqByteS.f k l l) true := by
  unfold laws_eqByteS.f
  simp only [if_pos trivial]
  exact eqByteS_l0 l h l.length 0 (by omega)

/-! ### law_FnExactGetText -/
theorem FnExactGetText (l0 : List (Int)) (g0 : G31 l0) (a1 : Int) (w1 : (Lit.int .i64 a1).wf = true) : ∃ k, laws_FnExactGetText.f k l0 a1 = some true := by
  have hl : l0.length ≤ 140737488351232 := by have := g0.1; omega
  have hb := byt_of g0.2
  refine Ev.rounds ?_
  unfold laws_FnExactGetText.f
  by_cases c : (l0.length : Int) > 1048576
  · simp only [if_pos c]; exact Ev.now _
  · simp only [if_neg c]
    refine Ev.bind (toByteS_ev l0 hl) (Ev.bind (spec_GetText_ev l0 a1 hb hl) (Ev.bind (toByteS_ev l0 hl) (Ev.bind (impl_GetText_ev l0 a1 hb hl) ?_)))
    simp only [if_true, bne_self_eq_false]
    refine Ev.step (f := fun k => _) (fun k => by simp only [laws_FnExactGetText.j0]; rfl) ?_
    simp only [Bool.false_eq_true, if_false]
    refine Ev.bind (toByteS_ev l0 hl) (Ev.bind (eqByteS_self l0 hl) (Ev.one ?_))
    rw [if_pos rfl]

end Go.Proofs.Ytcdnfonholkflaa.Pure
