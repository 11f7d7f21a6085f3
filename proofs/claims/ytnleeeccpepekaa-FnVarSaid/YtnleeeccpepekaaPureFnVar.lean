/- The pure statement of FnVar: what the printed functions of this law compute answers true, for every argument within the bounds that the statement names. -/
import Derived.Test.YtnleeeccpepekaaPFnVarx4
import Derived.Test.YtnleeeccpepekaaLib
import Derived.Test.YtnleeeccpepekaaLibOrd
import Derived.Test.YtnleeeccpepekaaLibOpen
import Derived.Test.YtnleeeccpepekaaLibVar
namespace Go.Proofs.Ytnleeeccpepekaa.Pure
open Go Go.RowKit Go.Proofs.Ytnleeeccpepekaa.PFnVar Go.Proofs.YtnleeeccpepekaaW.PrintWords Go.Proofs.YtnleeeccpepekaaW.PrintLast Go.Proofs.YtnleeeccpepekaaW.PrintMore Go.Proofs.Ytnleeeccpepekaa.Lib
set_option linter.unusedVariables false
set_option linter.unusedSimpArgs false

def G5 (x : Int) : Prop := (Lit.int .u8 x).wf = true
def G22 (xs : List (Int)) : Prop := xs.length * 1 ≤ 140737488351232 ∧ ∀ x ∈ xs, G5 x

/-! ### draws -/
theorem and255 (n : Int) : 0 ≤ Go.bits .and .i64 n 255 ∧ Go.bits .and .i64 n 255 ≤ 255 := by
  have h : Go.bits .and .i64 n 255 = n % 256 := by
    have h255 : (BitVec.ofInt 64 255).toNat = 2 ^ 8 - 1 := by decide
    have key : (BitVec.ofInt 64 n &&& BitVec.ofInt 64 255).toNat = (n % ((2 ^ 64 : Nat) : Int)).toNat % 2 ^ 8 := by
      rw [BitVec.toNat_and, BitVec.toNat_ofInt, h255, Nat.and_two_pow_sub_one_eq_mod]
    show IntKind.i64.wrap ((BitVec.ofInt 64 n &&& BitVec.ofInt 64 255).toNat : Nat) = n % 256
    rw [key, IntKind.wrap_i64]
    omega
  rw [h]
  omega
/-- A cursor's place. -/
def At (b : List Int) (i : Int) : Prop := 0 ≤ i ∧ i ≤ b.length
theorem byte_some (b : List Int) (hl : b.length ≤ 140737488351232) (i h : Int) (hi : At b i) : ∃ v i' h', spec_l01Byte.f b i h = some (v, i', h') ∧ 0 ≤ v ∧ v ≤ 255 ∧ At b i' := by
  unfold spec_l01Byte.f
  by_cases c : i < (b.length : Int)
  · rw [if_pos c, if_pos hi.1]
    exact ⟨_, _, _, rfl, (and255 _).1, (and255 _).2, by unfold At; rw [wr (by have := hi.1; omega) (by omega)]; have := hi.1; omega⟩
  · rw [if_neg c]
    exact ⟨_, _, _, rfl, (and255 _).1, (and255 _).2, hi⟩
theorem below_some (b : List Int) (hl : b.length ≤ 140737488351232) (i h n : Int) (hi : At b i) (h0 : 0 < n) (hn : n ≤ 16777216) : ∃ v i' h', spec_l01Below.f b i h n = some (v, i', h') ∧ 0 ≤ v ∧ v < n ∧ At b i' := by
  unfold spec_l01Below.f
  rw [if_neg (by omega)]
  by_cases c : n ≤ 256
  · rw [if_pos c]
    obtain ⟨v, i', h', e, hv, hv2, ha⟩ := byte_some b hl i h hi
    rw [e]
    simp only [Option.bind_some]
    rw [if_neg (by omega), tmod_pos hv]
    exact ⟨_, _, _, rfl, Int.emod_nonneg _ (by omega), Int.emod_lt_of_pos _ h0, ha⟩
  · rw [if_neg c]
    obtain ⟨v1, i1, h1, e1, p1, q1, a1⟩ := byte_some b hl i h hi
    obtain ⟨v2, i2, h2, e2, p2, q2, a2⟩ := byte_some b hl i1 h1 a1
    obtain ⟨v3, i3, h3, e3, p3, q3, a3⟩ := byte_some b hl i2 h2 a2
    obtain ⟨v4, i4, h4, e4, p4, q4, a4⟩ := byte_some b hl i3 h3 a3
    rw [e1]; simp only [Option.bind_some]
    rw [e2]; simp only [Option.bind_some]
    rw [e3]; simp only [Option.bind_some]
    rw [e4]; simp only [Option.bind_some]
    rw [if_neg (by omega), wr (n := v1 * 16777216) (by omega) (by omega), wr (n := v2 * 65536) (by omega) (by omega), wr (n := v1 * 16777216 + v2 * 65536) (by omega) (by omega), wr (n := v3 * 256) (by omega) (by omega), wr (n := v1 * 16777216 + v2 * 65536 + v3 * 256) (by omega) (by omega), wr (by omega) (by omega), tmod_pos (by omega)]
    exact ⟨_, _, _, rfl, Int.emod_nonneg _ (by omega), Int.emod_lt_of_pos _ h0, a4⟩
theorem new_l0 (b : List Int) (hl : b.length ≤ 140737488351232) (d : Nat) : ∀ (i : Nat) (h : Int), i + d = b.length → ∃ h', Ev (fun k => spec_l01New.l0 k b h (i : Int)) (b, 0, h') := by
  induction d with
  | zero =>
    intro i h hi
    refine ⟨h, Ev.step1 fun k => ?_⟩
    simp only [spec_l01New.l0]
    rw [if_neg (by omega)]
  | succ d ih =>
    intro i h hi
    by_cases c : (i : Int) < 4000
    · obtain ⟨h', hh⟩ := ih (i + 1) (Go.bits .and .i64 (wrap64 ((wrap64 ((wrap64 (h * 137)) + (wrap64 (rd b i)))) + 5)) 1073741823) (by omega)
      refine ⟨h', Ev.step (fun k => ?_) hh⟩
      simp only [spec_l01New.l0]
      rw [if_pos (by omega), if_pos c, if_pos (by omega), wrS (by omega)]
    · refine ⟨h, Ev.step1 fun k => ?_⟩
      simp only [spec_l01New.l0]
      rw [if_pos (by omega), if_neg c]
theorem new_some (b : List Int) (hl : b.length ≤ 140737488351232) : ∃ h, Ev (fun k => spec_l01New.f k b) (b, 0, h) := new_l0 b hl b.length 0 _ (by omega)
theorem bytes_l0 (b : List Int) (hl : b.length ≤ 140737488351232) (n : Nat) (hn : n ≤ 1000000) (d : Nat) : ∀ (j : Nat) (acc : List Int) (i h : Int), j + d = n → acc.length = j → Byt acc → At b i →
    ∃ xs i' h', Ev (fun k => spec_l01Bytes.l0 k (n : Int) acc (j : Int) b i h) (xs, i', h') ∧ xs.length = n ∧ Byt xs ∧ At b i' := by
  induction d with
  | zero =>
    intro j acc i h hj ha hb hi
    refine ⟨acc, i, h, Ev.step1 fun k => ?_, by omega, hb, hi⟩
    simp only [spec_l01Bytes.l0]
    rw [if_neg (by omega)]
  | succ d ih =>
    intro j acc i h hj ha hb hi
    obtain ⟨v, i', h', e, hv, hv2, hi'⟩ := byte_some b hl i h hi
    obtain ⟨xs, i2, h2, he, hx⟩ := ih (j + 1) (acc ++ [v % 256]) i' h' (by omega) (by simp; omega) (hb.app (Byt.one (by omega))) hi'
    refine ⟨xs, i2, h2, Ev.step (fun k => ?_) he, hx⟩
    simp only [spec_l01Bytes.l0]
    rw [if_pos (by omega), e]
    simp only [Option.bind_some]
    rw [if_pos (by omega), wrS (by omega)]
theorem bytes_some (b : List Int) (hl : b.length ≤ 140737488351232) (i h : Int) (hi : At b i) (m : Int) (hm : 0 ≤ m) (hm2 : m ≤ 100000) :
    ∃ xs i' h', Ev (fun k => spec_l01Bytes.f k b i h m) (xs, i', h') ∧ (xs.length : Int) ≤ m ∧ Byt xs ∧ At b i' := by
  unfold spec_l01Bytes.f
  obtain ⟨v, i1, h1, e, hv, hv2, hi1⟩ := below_some b hl i h (m + 1) hi (by omega) (by omega)
  obtain ⟨n, rfl⟩ := Int.eq_ofNat_of_zero_le hv
  obtain ⟨xs, i2, h2, he, hx, hb, hi2⟩ := bytes_l0 b hl n (by omega) n 0 [] i1 h1 (by omega) rfl Byt.nil hi1
  refine ⟨xs, i2, h2, ?_, by omega, hb, hi2⟩
  rw [wr (by omega) (by omega), e]
  simp only [Option.bind_some]
  exact he

/-! ### within -/
theorem within_eq (x lo hi : Int) : impl_within.f x lo hi = some (decide (lo ≤ x ∧ x ≤ hi)) := by
  unfold impl_within.f
  by_cases h : x ≥ lo
  · rw [if_pos h]; simp [h]
  · rw [if_neg h]; simp; omega

/-! ### isNum -/
theorem isNum_eq (n : Int) : impl_isNum.f n = some (decide (0 ≤ n ∧ n ≤ 1099511627775)) := by
  unfold impl_isNum.f; rw [within_eq]; rfl

/-! ### putVarD -/
def putVar (b : List Int) (n : Int) : List Int × Bool := if (0 ≤ n ∧ n ≤ 1099511627775) ∧ b.length + (enc n.toNat).length ≤ 4096 then (b ++ enc n.toNat, true) else ([], false)

/-! ### vary -/
theorem vary_l0 (m : Nat) : ∀ acc : List Int, acc.length + (enc m).length ≤ 140737488355000 → m ≤ 9223372036854775807 → Ev (fun k => impl_vary.l0 k acc (m : Int)) (acc ++ enc m) := by
  induction m using Nat.strongRecOn with
  | _ m ih =>
    intro acc ha hm
    by_cases h : m < 128
    · refine Ev.step1 fun k => ?_
      simp only [impl_vary.l0]
      rw [enc_lt h] at ha ⊢
      simp at ha
      rw [if_neg (by omega), if_pos (by omega), show (m : Int) % 256 = m by omega]
    · rw [enc_ge h] at ha ⊢
      simp at ha
      refine Ev.step (f := fun k => impl_vary.l0 k (acc ++ [((m % 128 + 128 : Nat) : Int)]) ((m / 128 : Nat) : Int)) (fun k => ?_) ?_
      · simp only [impl_vary.l0]
        rw [if_pos (by omega), if_pos (by omega), show (128 : Int) = ((128 : Nat) : Int) from rfl, tdiv_nat, tmod_nat, wr (n := ((m % 128 : Nat) : Int) + _) (by omega) (by omega), wr (by omega) (by omega), show (((m % 128 : Nat) : Int) + ((128 : Nat) : Int)) % 256 = ((m % 128 + 128 : Nat) : Int) by omega]
      · have := ih (m / 128) (by omega) (acc ++ [((m % 128 + 128 : Nat) : Int)]) (by simp; omega) (by omega)
        rw [List.append_assoc] at this
        exact this
theorem vary_ev (b : List Int) (n : Nat) (h : b.length + (enc n).length ≤ 140737488355000) (h2 : n ≤ 9223372036854775807) : Ev (fun k => impl_vary.f k b (n : Int)) (b ++ enc n) := vary_l0 n b h h2

/-! ### implPutVar -/
theorem impl_PutVar_ev (b : List Int) (n : Int) (h : b.length ≤ 140737488351232) : Ev (fun k => impl_PutVar.f k b n) (putVar b n) := by
  unfold impl_PutVar.f putVar
  rw [isNum_eq]
  simp only [Option.bind_some, decide_eq_true_eq]
  by_cases c : 0 ≤ n ∧ n ≤ 1099511627775
  · simp only [if_pos c]
    by_cases c3 : (b.length : Int) > 4096
    · rw [if_neg (fun f => by have := f.2; omega)]
      refine Ev.step1 fun k => ?_
      simp only [impl_PutVar.j0]
      rw [if_pos (decide_eq_true c3)]
    · have he := enc_six (n := n.toNat) (by omega)
      refine Ev.step (f := fun k => (impl_vary.f k b n).bind fun t => if (t.length : Int) > 4096 then some ([], false) else some (t, true)) (fun k => ?_) ?_
      · simp only [impl_PutVar.j0]
        rw [if_neg (fun e => c3 (of_decide_eq_true e))]
        simp only [Option.bind_some, List.nil_append, List.length_nil]
        rw [if_pos (by omega)]
      · have hv := vary_ev b n.toNat (by omega) (by omega)
        rw [Int.toNat_of_nonneg c.1] at hv
        refine Ev.bind hv (Ev.one ?_)
        by_cases c2 : b.length + (enc n.toNat).length ≤ 4096
        · rw [if_neg (by rw [List.length_append]; omega), if_pos ⟨c, c2⟩]
        · rw [if_pos (by rw [List.length_append]; omega), if_neg (fun f => c2 f.2)]
  · simp only [if_neg c]; rw [if_neg (fun f => c f.1)]
    exact Ev.step1 fun k => by simp only [impl_PutVar.j0]; rfl
theorem putVar_len (b : List Int) (n : Int) : (putVar b n).1.length ≤ 4096 := by
  unfold putVar
  split
  · rename_i h; rw [List.length_append]; exact h.2
  · simp

/-! ### implGetVar -/
theorem impl_gv (b : List Int) (hb : Byt b) (hl : b.length ≤ 140737488351232) (a : Nat) (ha : a < b.length) (d : Nat) : ∀ j n u : Nat, j + d = 6 → u = 128 ^ j → n < u →
    Ev (fun k => impl_GetVar.l0 k b (a : Int) (n : Int) (u : Int) ((a + j : Nat) : Int)) (gvRes a (gv (b.drop (a + j)) j n u)) := by
  induction d with
  | zero =>
    intro j n u hj hu hn
    clear hu
    have e : gv (b.drop (a + j)) j n u = none := by
      cases b.drop (a + j) with
      | nil => rfl
      | cons x r => unfold gv; rw [if_pos (by omega)]
    rw [e]
    refine Ev.step (f := fun k => impl_GetVar.j1 k b (a : Int) (n : Int) (u : Int) ((a + j : Nat) : Int) false) (fun k => ?_) (Ev.step1 fun k => by simp only [impl_GetVar.j1]; rfl)
    simp only [impl_GetVar.l0]
    by_cases c : ((a + j : Nat) : Int) < (b.length : Int)
    · rw [if_pos c, decide_eq_false (by rw [wr (by omega) (by omega)]; omega)]
    · rw [if_neg c]
  | succ d ih =>
    intro j n u hj hu hn
    have hj6 : j ≤ 6 := by clear hu; omega
    have hjd : j + 1 + d = 6 := by clear hu; omega
    have hp := pow128 hj6
    rw [← hu] at hp
    have hu2 : u * 128 = 128 ^ (j + 1) := by rw [Nat.pow_succ, hu]
    have ihx := fun n' => ih (j + 1) n' (u * 128) hjd hu2
    clear hu hu2 ih
    by_cases c : ((a + j : Nat) : Int) < (b.length : Int)
    · refine Ev.step (f := fun k => impl_GetVar.j1 k b (a : Int) (n : Int) (u : Int) ((a + j : Nat) : Int) true) (fun k => ?_) ?_
      · simp only [impl_GetVar.l0]
        rw [if_pos c, decide_eq_true (by rw [wr (by omega) (by omega)]; omega)]
      · obtain ⟨x, hx⟩ : ∃ x : Nat, rd b ((a + j : Nat) : Int) = (x : Int) := ⟨(rd b ((a + j : Nat) : Int)).toNat, by have := rd_byt hb ((a + j : Nat) : Int); omega⟩
        have hx2 : x < 256 := by have := rd_byt hb ((a + j : Nat) : Int); omega
        obtain ⟨q, hq⟩ : ∃ q, x % 128 * u = q := ⟨_, rfl⟩
        have hq1 : q ≤ 127 * u := by rw [← hq]; exact Nat.mul_le_mul_right _ (by omega)
        have et : ((x : Int) % 128).toNat = x % 128 := by omega
        have em : Hide (wrap64 ((n : Int) + wrap64 (Int.tmod (wrap64 (x : Int)) 128 * (u : Int))) = ((n + q : Nat) : Int)) := by
          refine ⟨?_⟩
          rw [wr (n := (x : Int)) (by omega) (by omega), show (128 : Int) = ((128 : Nat) : Int) from rfl, tmod_nat, ← Int.natCast_mul, hq, wr (n := (q : Int)) (by omega) (by omega), wr (by omega) (by omega)]
          rfl
        rw [drop_rd (by omega), Nat.add_assoc a j 1, hx]
        unfold gv
        rw [if_neg (by omega), et, hq]
        clear hq
        by_cases h : (128 : Int) ≤ (x : Int)
        · rw [if_pos h]
          refine Ev.step (f := fun k => impl_GetVar.l0 k b (a : Int) ((n + q : Nat) : Int) ((u * 128 : Nat) : Int) ((a + (j + 1) : Nat) : Int)) (fun k => ?_) ?_
          · simp only [impl_GetVar.j1]
            rw [if_pos trivial, if_pos (by omega), if_pos c, hx, em.out, wr (n := (x : Int)) (by omega) (by omega), if_pos h, wrS (by omega), Nat.add_assoc, wr (n := (u : Int) * 128) (by omega) (by omega)]
            rfl
          · exact ihx (n + q) (by omega)
        · rw [if_neg h]
          refine Ev.step1 fun k => ?_
          simp only [impl_GetVar.j1]
          rw [if_pos trivial, if_pos (by omega), if_pos c, hx, em.out, wr (n := (x : Int)) (by omega) (by omega), if_neg h]
          clear em
          by_cases h2 : n + q ≤ 1099511627775
          · rw [if_neg (by omega)]
            have h2' : ¬ 1099511627775 < n + q := Nat.not_lt.2 h2
            by_cases h3 : (x : Int) = 0
            · rw [if_pos h3]
              by_cases h4 : 0 < j
              · rw [if_pos (by omega), if_pos (.inr ⟨h3, h4⟩)]; rfl
              · rw [if_neg (by omega), if_neg (fun f => f.elim h2' (fun f => h4 f.2)), wrS (by omega)]; rfl
            · rw [if_neg h3, if_neg (fun f => f.elim h2' (fun f => h3 f.1)), wrS (by omega)]; rfl
          · rw [if_pos (by omega), if_pos (.inl (Nat.lt_of_not_le h2))]; rfl
    · rw [List.drop_of_length_le (by omega)]
      refine Ev.step (f := fun k => impl_GetVar.j1 k b (a : Int) (n : Int) (u : Int) ((a + j : Nat) : Int) false) (fun k => ?_) (Ev.step1 fun k => by simp only [impl_GetVar.j1]; rfl)
      simp only [impl_GetVar.l0]
      rw [if_neg c]
theorem impl_GetVar_ev (b : List Int) (a : Int) (hb : Byt b) (hl : b.length ≤ 140737488351232) : Ev (fun k => impl_GetVar.f k b a) (getVar b a) := by
  unfold impl_GetVar.f
  by_cases c : a < 0
  · rw [getVar_out (.inl c)]; simp only [if_pos c]; exact Ev.now _
  · simp only [if_neg c]
    by_cases c2 : (b.length : Int) ≤ a
    · rw [getVar_out (.inr c2)]
      refine Ev.step (f := fun k => impl_GetVar.j1 k b a 0 1 a false) (fun k => ?_) (Ev.step1 fun k => by simp only [impl_GetVar.j1]; rfl)
      simp only [impl_GetVar.l0]
      rw [if_neg (by omega)]
    · unfold getVar
      rw [if_neg c]
      have := impl_gv b hb hl a.toNat (by omega) 6 0 0 1 (by omega) (by decide) (by decide)
      rw [Nat.add_zero, Int.toNat_of_nonneg (by omega)] at this
      exact this

/-! ### implGetText -/
theorem impl_GetText_ev (b : List Int) (a : Int) (hb : Byt b) (hl : b.length ≤ 140737488351232) : Ev (fun k => impl_GetText.f k b a) (getText b a) := by
  unfold impl_GetText.f
  exact Ev.bind (impl_GetVar_ev b a hb hl) (Ev.one (getText_core b hl a _ rfl))

/-! ### law_FnVar -/
theorem raw_some (b : List Int) (hl : b.length ≤ 140737488351232) (i h : Int) (hi : At b i) : ∃ r, spec_l01Raw.f b i h = some r := by
  unfold spec_l01Raw.f
  obtain ⟨v, i1, h1, e, p, q, a1⟩ := below_some b hl i h 10 hi (by omega) (by omega)
  rw [e]; simp only [Option.bind_some]
  have go : ∀ n : Int, 0 < n → n ≤ 16777216 → ∃ r, spec_l01Below.f b i1 h1 n = some r ∧ 0 ≤ r.1 ∧ r.1 < n := fun n hn hn2 => by
    obtain ⟨v2, i2, h2, e2, p2, q2, _⟩ := below_some b hl i1 h1 n a1 hn hn2
    exact ⟨_, e2, p2, q2⟩
  repeat' split
  · obtain ⟨r, hr, _⟩ := go 20 (by omega) (by omega); rw [hr]; exact ⟨_, rfl⟩
  · obtain ⟨r, hr, _⟩ := go 3 (by omega) (by omega); rw [hr]; exact ⟨_, rfl⟩
  · obtain ⟨r, hr, _⟩ := go 2 (by omega) (by omega); rw [hr]; exact ⟨_, rfl⟩
  · obtain ⟨r, hr, _⟩ := go 2 (by omega) (by omega); rw [hr]; exact ⟨_, rfl⟩
  · obtain ⟨r, hr, _⟩ := go 2 (by omega) (by omega); rw [hr]; exact ⟨_, rfl⟩
  · obtain ⟨r, hr, h0, h8⟩ := go 8 (by omega) (by omega)
    rw [hr]
    simp only [Option.bind_some]
    rw [if_pos h0, if_pos (by simpa using h8)]
    exact ⟨_, rfl⟩
  · obtain ⟨r, hr, _⟩ := go 65536 (by omega) (by omega); rw [hr]; exact ⟨_, rfl⟩
theorem Byt_zeros (n : Nat) : Byt (List.replicate n 0) := fun x hx => by rw [(List.mem_replicate.1 hx).2]; omega
theorem drawPutVar_some (l : List Int) (hl : l.length ≤ 140737488351232) : ∃ (xs : List Int) (n : Int), Ev (fun k => spec_DrawPutVar.f k l) (xs, n) ∧ Byt xs := by
  unfold spec_DrawPutVar.f
  obtain ⟨h0, e0⟩ := new_some l hl
  obtain ⟨xs, i1, h1, e1, hx, hb, a1⟩ := bytes_some l hl 0 h0 ⟨by omega, by omega⟩ 6 (by omega) (by omega)
  obtain ⟨v2, i2, h2, e2, p2, q2, a2⟩ := below_some l hl i1 h1 20 a1 (by omega) (by omega)
  by_cases c : v2 = 0
  · obtain ⟨v3, i3, h3, e3, p3, q3, a3⟩ := below_some l hl i2 h2 4 a2 (by omega) (by omega)
    obtain ⟨r, er⟩ := raw_some l hl i3 h3 a3
    refine ⟨List.replicate (4096 - v3).toNat 0, r.1, Ev.bind e0 (Ev.bind e1 ?_), Byt_zeros _⟩
    simp only [e2, Option.bind_some, if_pos c]
    simp only [e3, Option.bind_some]
    simp only [wr (n := 4096 - v3) (by omega) (by omega), if_pos (show (0 : Int) ≤ 4096 - v3 by omega), if_pos (show (4096 - v3).toNat ≤ 281474976710656 by omega)]
    simp only [er, Option.bind_some]
    exact Ev.now _
  · obtain ⟨r, er⟩ := raw_some l hl i2 h2 a2
    refine ⟨xs, r.1, Ev.bind e0 (Ev.bind e1 ?_), hb⟩
    simp only [e2, Option.bind_some, if_neg c]
    simp only [er, Option.bind_some]
    exact Ev.now _
theorem drawPutText_some (l : List Int) (hl : l.length ≤ 140737488351232) : ∃ (xs : List Int) (s : ByteArray), Ev (fun k => spec_DrawPutText.f k l) (xs, s) := by
  unfold spec_DrawPutText.f
  obtain ⟨h0, e0⟩ := new_some l hl
  obtain ⟨xs, i1, h1, e1, hx, hb, a1⟩ := bytes_some l hl 0 h0 ⟨by omega, by omega⟩ 6 (by omega) (by omega)
  obtain ⟨ys, i2, h2, e2, hy, hb2, a2⟩ := bytes_some l hl i1 h1 a1 20 (by omega) (by omega)
  obtain ⟨v3, i3, h3, e3, p3, q3, a3⟩ := below_some l hl i2 h2 20 a2 (by omega) (by omega)
  have last : ∀ (xs : List Int) (s : ByteArray) (i h : Int), At l i → ∃ (xs' : List Int) (s' : ByteArray), Ev (fun k => spec_DrawPutText.j0 k xs s l i h) (xs', s') := by
    intro xs s i h ha
    obtain ⟨v4, i4, h4, e4, p4, q4, a4⟩ := below_some l hl i h 30 ha (by omega) (by omega)
    by_cases c : v4 = 0
    · obtain ⟨v5, i5, h5, e5, p5, q5, a5⟩ := below_some l hl i4 h4 3 a4 (by omega) (by omega)
      refine ⟨xs, strOfNums (List.replicate (4093 + v5).toNat 0), Ev.step1 fun k => ?_⟩
      simp only [spec_DrawPutText.j0]
      rw [e4]; simp only [Option.bind_some]
      rw [if_pos c, e5]; simp only [Option.bind_some]
      rw [wr (by omega) (by omega), if_pos (by omega), if_pos (by omega)]
    · refine ⟨xs, s, Ev.step1 fun k => ?_⟩
      simp only [spec_DrawPutText.j0]
      rw [e4]; simp only [Option.bind_some]
      rw [if_neg c]
  by_cases c : v3 = 0
  · obtain ⟨v4, i4, h4, e4, p4, q4, a4⟩ := below_some l hl i3 h3 3 a3 (by omega) (by omega)
    obtain ⟨n, hn⟩ : ∃ n : Int, n = (wrap64 ((wrap64 ((wrap64 (4095 - ((strOfNums ys).size : Int))) - 1)) + v4)) ∧ 0 ≤ n ∧ n ≤ 100000 := ⟨_, rfl, by
      rw [size_son, wr (n := 4095 - (ys.length : Int)) (by omega) (by omega), wr (n := 4095 - (ys.length : Int) - 1) (by omega) (by omega), wr (by omega) (by omega)]
      omega⟩
    obtain ⟨xs', s', hh⟩ := last (List.replicate n.toNat 0) (strOfNums ys) i4 h4 a4
    refine ⟨xs', s', Ev.bind e0 (Ev.bind e1 (Ev.bind e2 ?_))⟩
    simp only [e3, Option.bind_some, if_pos c]
    simp only [e4, Option.bind_some]
    simp only [← hn.1, if_pos hn.2.1, if_pos (show n.toNat ≤ 281474976710656 by omega)]
    exact hh
  · obtain ⟨xs', s', hh⟩ := last xs (strOfNums ys) i3 h3 a3
    refine ⟨xs', s', Ev.bind e0 (Ev.bind e1 (Ev.bind e2 ?_))⟩
    simp only [e3, Option.bind_some, if_neg c]
    exact hh
theorem impl_Quote_empty : Ev (fun k => impl_Quote.f k (⟨#[]⟩ : ByteArray)) (strOfNums ([34] ++ [34])) := by
  unfold impl_Quote.f
  simp only [if_neg (show ¬ (((⟨#[]⟩ : ByteArray).size : Int) > 4096) by decide)]
  refine Ev.step1 fun k => ?_
  simp only [impl_Quote.l0]
  rw [if_neg (by decide), if_pos (by decide)]
theorem impl_PutText_small (b : List Int) (s : ByteArray) (hb : b.length ≤ 1000) (hs : s.size ≤ 1000) : Ev (fun k => impl_PutText.f k b s) (b ++ enc s.size ++ bytesOf s, true) := by
  unfold impl_PutText.f
  have he := enc_six (n := s.size) (by omega)
  simp only [if_neg (show ¬ (b.length : Int) > 4096 by omega), show decide ((s.size : Int) > 4096) = false from decide_eq_false (by omega)]
  refine Ev.step (f := fun k => _) (fun k => by simp only [impl_PutText.j0]; rfl) ?_
  simp only [Bool.false_eq_true, if_false, Option.bind_some, List.nil_append, List.length_nil, Nat.zero_add]
  simp only [if_pos (show b.length < 140737488355328 by omega)]
  refine Ev.bind (vary_ev b s.size (by omega) (by omega)) (Ev.one ?_)
  rw [if_pos (by simp; omega), if_neg (by simp [len_bytesOf]; omega)]
theorem FnVar (l0 : List (Int)) (g0 : G22 l0) : ∃ k, laws_FnVar.f k l0 = some true := by
  have hl : l0.length ≤ 140737488351232 := by have := g0.1; omega
  refine Ev.rounds ?_
  unfold laws_FnVar.f
  by_cases c : (l0.length : Int) > 1048576
  · simp only [if_pos c]; exact Ev.now _
  · simp only [if_neg c]
    obtain ⟨xs, n, e1, hb⟩ := drawPutVar_some l0 hl
    obtain ⟨ys, s, e2⟩ := drawPutText_some l0 hl
    refine Ev.bind e1 (Ev.bind e2 ?_)
    have quiet : Ev (fun k => laws_FnVar.j0 k xs n s true) true := by
      refine Ev.step (f := fun k => _) (fun k => by simp only [laws_FnVar.j0]; rfl) ?_
      simp only [if_true]
      refine Ev.bind impl_Quote_empty (Ev.one ?_)
      rw [ByteArray.toList_eq]
      decide
    by_cases c1 : (xs.length : Int) > 20
    · simp only [if_pos c1]; exact quiet
    simp only [if_neg c1]
    by_cases c2 : (s.size : Int) > 40
    · simp only [show decide ((s.size : Int) > 40) = true from decide_eq_true c2]; exact quiet
    simp only [show decide ((s.size : Int) > 40) = false from decide_eq_false c2]
    refine Ev.step (f := fun k => _) (fun k => by simp only [laws_FnVar.j0]; rfl) ?_
    simp only [Bool.false_eq_true, if_false]
    refine Ev.bind (impl_PutVar_ev xs n (by omega)) ?_
    by_cases hn : 0 ≤ n ∧ n ≤ 1099511627775
    · have he := enc_six (n := n.toNat) (by omega)
      have hp : putVar xs n = (xs ++ enc n.toNat, true) := by unfold putVar; rw [if_pos ⟨hn, by omega⟩]
      rw [hp]
      simp only [if_pos (show n ≥ 0 from hn.1), show decide (n ≤ 1099511627775) = true from decide_eq_true hn.2]
      refine Ev.step (f := fun k => _) (fun k => by simp only [laws_FnVar.j1]; rfl) ?_
      simp only [bne_self_eq_false, Bool.false_eq_true, if_false, if_true]
      have hB : Byt (xs ++ enc n.toNat ++ enc s.size ++ bytesOf s) := ((hb.app (enc_byt _)).app (enc_byt _)).app (bytesOf_Byt s)
      have hs6 := enc_six (n := s.size) (by omega)
      have hL : (xs ++ enc n.toNat ++ enc s.size ++ bytesOf s).length ≤ 140737488351232 := by simp [len_bytesOf]; omega
      have hgv : getVar (xs ++ enc n.toNat ++ enc s.size ++ bytesOf s) (xs.length : Int) = (n, ((xs.length + (enc n.toNat).length : Nat) : Int)) := by
        unfold getVar
        rw [if_neg (by omega), Int.toNat_natCast, List.append_assoc, List.append_assoc, List.drop_left, gv_enc0 _ (by omega)]
        simp only [gvRes]
        rw [show ((n.toNat : Nat) : Int) = n by omega]
      have hgv2 : getVar (xs ++ enc n.toNat ++ enc s.size ++ bytesOf s) ((xs.length + (enc n.toNat).length : Nat) : Int) = ((s.size : Int), ((xs.length + (enc n.toNat).length + (enc s.size).length : Nat) : Int)) := by
        unfold getVar
        rw [if_neg (by omega), Int.toNat_natCast, ← List.length_append, List.append_assoc, List.drop_left, gv_enc0 _ (by omega)]
        rfl
      have hgt : getText (xs ++ enc n.toNat ++ enc s.size ++ bytesOf s) ((xs.length + (enc n.toNat).length : Nat) : Int) = (s, ((xs ++ enc n.toNat ++ enc s.size ++ bytesOf s).length : Int)) := by
        unfold getText
        rw [hgv2]
        simp only
        rw [if_neg (by simp [len_bytesOf]; omega)]
        have e3 : (((xs.length + (enc n.toNat).length + (enc s.size).length : Nat) : Int) + (s.size : Int)).toNat = (xs ++ enc n.toNat ++ enc s.size ++ bytesOf s).length := by simp [len_bytesOf]; omega
        rw [e3, List.take_length, Int.toNat_natCast, ← List.length_append, ← List.length_append, List.drop_left, son_bytesOf]
        congr 1
        simp [len_bytesOf]; omega
      refine Ev.bind (impl_PutText_small _ s (by simp; omega) (by omega)) (Ev.bind (impl_GetVar_ev _ _ hB hL) ?_)
      rw [hgv]
      refine Ev.bind (impl_GetText_ev _ _ hB hL) (Ev.one ?_)
      rw [hgt]
      simp
    · have hp : putVar xs n = ([], false) := by unfold putVar; rw [if_neg (fun f => hn f.1)]
      rw [hp]
      have e3 : Ev (fun k => laws_FnVar.j1 k xs n s [] false false) true := by
        refine Ev.step (f := fun k => _) (fun k => by simp only [laws_FnVar.j1]; rfl) ?_
        simp only [Bool.false_eq_true, if_false, List.length_nil]
        have en : Ev (fun k => impl_NumText.f k n) (⟨#[]⟩ : ByteArray) := by
          unfold impl_NumText.f
          rw [isNum_eq]
          simp only [Option.bind_some]
          simp only [decide_eq_true_eq, if_neg hn]
          exact Ev.now _
        refine Ev.bind en (Ev.one ?_)
        simp [tl_empty]
      by_cases c3 : n ≥ 0
      · simp only [if_pos c3, show decide (n ≤ 1099511627775) = false from decide_eq_false (by omega), bne_self_eq_false]
        exact e3
      · simp only [if_neg c3, bne_self_eq_false]
        exact e3

end Go.Proofs.Ytnleeeccpepekaa.Pure
